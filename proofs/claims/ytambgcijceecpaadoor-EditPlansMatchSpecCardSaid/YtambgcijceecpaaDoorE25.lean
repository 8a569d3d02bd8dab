/- What all answers with passes; the runs of needed as a list. Conditions: none; plain Lean. -/
import Derived.Test.YtambgcijceecpaaDoorE24
namespace Go.Proofs.YtambgcijceecpaaDoor
open Go.RowKit
set_option linter.unusedVariables false
theorem allQ_mem {fs : List Fld} : ∀ {f : Nat} {p : List Int}, p ∈ allQ fs f → ∀ i, i < f → p.getD i 0 ∈ (fs.getD i fld0).2.1
  | 0, _, _, i, hi => by omega
  | f + 1, p, h, i, hi => by
    rw [allQ, List.mem_flatMap] at h
    obtain ⟨q, hq, h⟩ := h
    obtain ⟨c, hc, rfl⟩ := List.mem_map.1 h
    have hl := allQ_row fs f q hq
    by_cases e : i = f
    · subst e
      have e2 : (q ++ [c]).getD i 0 = c := by rw [List.getD_eq_getElem?_getD, List.getElem?_append_right (by omega), hl, Nat.sub_self]; rfl
      rw [e2]
      exact hc
    · have h1 := allQ_mem hq i (by omega)
      have e2 : (q ++ [c]).getD i 0 = q.getD i 0 := by rw [List.getD_eq_getElem?_getD, List.getElem?_append_left (by omega), ← List.getD_eq_getElem?_getD]
      rw [e2]
      exact h1
theorem any_congr2 {α : Type} {l : List α} {p q : α → Bool} (h : ∀ x ∈ l, p x = q x) : l.any p = l.any q := by
  induction l with
  | nil => rfl
  | cons x l ih => rw [List.any_cons, List.any_cons, h x (by simp), ih (fun y hy => h y (by simp [hy]))]
theorem pass_all {fs : List Fld} {es : List Edt} {n m : Nat} : (allR fs n).any (fun x => passB fs es x n m) = posB fs es n m (List.replicate m true) := by
  rw [pos_all]
  refine any_congr2 (fun x hx => ?_)
  rw [← allQ_all] at hx
  rw [passB, validB_true (allQ_mem hx)]
  rfl
/-- The records that fail an edit. -/
def recsR (fs : List Fld) (es : List Edt) (n m : Nat) : List (List Int) := (allR fs n).filter (fun r => !decide ((failL es r n m).length = 0))
theorem foldU_runs {es : List Edt} {n m : Nat} : ∀ (l : List (List Int)) (s : List (List Int)), foldU (runsV es n m) l s = (s ++ (l.filter (fun r => !decide ((failL es r n m).length = 0))).map (fun r => failL es r n m), false)
  | [], s => by simp [foldU]
  | x :: l, s => by
    rw [foldU]
    by_cases h : (failL es x n m).length = 0
    · rw [List.filter_cons_of_neg (by simp [h])]
      simp only [runsV, if_pos h]
      rw [if_neg (by simp)]
      exact foldU_runs l s
    · rw [List.filter_cons_of_pos (by simp [h])]
      simp only [runsV, if_neg h]
      rw [if_neg (by simp), foldU_runs l]
      simp
end Go.Proofs.YtambgcijceecpaaDoor
