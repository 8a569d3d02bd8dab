/- The walk of machineOf. Conditions: none beyond what the claim form gives. -/
import Derived.Test.YtapkkplndhbapaaW8
namespace Go.Proofs.Ytapkkplndhbapaa
open Go.RowKit
set_option linter.unusedVariables false
abbrev Exm := ByteArray × Int
abbrev exm0 : Exm := (ByteArray.empty, 0)
theorem SlV.exmD {φ : Phi} {a : Option Addr} {cap : Nat} {xs : List Exm} (h : SlV φ a cap xs) {k n : Nat} (hn : Hid (xs.length = n)) (hk : k < n) :
    ∃ b off, a = some ⟨b, off, none⟩ ∧ ∀ k, k < n → ∀ w, Fz φ w → b < w.heap.size ∧ w.cell? ⟨b, off + k * 2, none⟩ = some (.string (xs.getD k exm0).1) ∧ w.cell? ⟨b, off + k * 2 + 1, none⟩ = some (.int .i64 (xs.getD k exm0).2) := by
  obtain ⟨b, off, ha, hc⟩ := h.cellsD exm0 hn hk
  refine ⟨b, off, ha, fun k hk w hw => ?_⟩
  obtain ⟨cs, ⟨c, d, rfl, h1, h2⟩, hj⟩ := hc k hk
  cases h1; cases h2
  have j0 := hj 0 (by simp)
  have j1 := hj 1 (by simp)
  simp [Rep.size] at j0 j1
  exact ⟨hw.lt j0, hw.cell j0, hw.cell j1⟩
noncomputable def endBad (ends : List Endg) (k : Nat) : Int := if wordB (ends.getD k end0).1 = false then 5 else if (ends.getD k end0).2.size ≠ 0 ∧ wordB (ends.getD k end0).2 = false then 5 else 0
noncomputable def endsF (ends : List Endg) : Int := scan (endBad ends) ends.length
def exmBad (l : List Nod) (xs : List Exm) (k : Nat) : Int := if 1000 < (xs.getD k exm0).1.size then 2 else if (ix l (xs.getD k exm0).2).isSome = true then 0 else 5
def exmsF (l : List Nod) (xs : List Exm) : Int := scan (exmBad l xs) xs.length
noncomputable def cdrF (l : List Nod) (stops : List ByteArray) (ends : List Endg) (rs : List Rul) (xs : List Exm) : Int :=
  if treeF l ≠ 0 then treeF l else if 60 < stops.length ∨ 40 < ends.length ∨ 200 < rs.length ∨ 2000 < xs.length then 2 else if risF stops ≠ 0 then risF stops else if endsF ends ≠ 0 then endsF ends else if rulsF l rs ≠ 0 then rulsF l rs else exmsF l xs
theorem endsF_at {ends : List Endg} {n k : Nat} (hn : Hid (ends.length = n)) (hk : k < n) (h : Hid (∀ i, i < k → endBad ends i = 0)) (hc : endBad ends k = 5) : endsF ends = 5 := by
  rw [endsF, hn.out, scan_stop h.out hk (by rw [hc]; decide), hc]
theorem exmsF_at {l : List Nod} {xs : List Exm} {n k : Nat} (hn : Hid (xs.length = n)) (hk : k < n) (h : Hid (∀ i, i < k → exmBad l xs i = 0)) {c : Int} (hc : exmBad l xs k = c) (hc0 : c ≠ 0) : exmsF l xs = c := by
  rw [exmsF, hn.out, scan_stop h.out hk (by rw [hc]; exact hc0), hc]
/-- The texts of the first k examples. -/
def txsF (stops : List ByteArray) (ends : List Endg) (xs : List Exm) (k : Nat) : List (List ByteArray) := (xs.take k).map (fun x => wordsF stops ends x.1)
theorem txsF_next {stops : List ByteArray} {ends : List Endg} {xs : List Exm} {n k : Nat} (hn : Hid (xs.length = n)) (hk : k < n) : txsF stops ends xs (k + 1) = txsF stops ends xs k ++ [wordsF stops ends (xs.getD k exm0).1] := by
  unfold txsF; rw [take_snocD exm0 xs k n hn.out hk, List.map_append]; rfl
theorem wordsF_len (stops : List ByteArray) (ends : List Endg) (t : ByteArray) : (wordsF stops ends t).length ≤ 60 := wrdK_len _ _ _ _
/-- In which texts, of those of the list from number k on, a word is; once for each place. -/
def whF : List (List ByteArray) → Nat → WF
  | [], _ => fun _ => []
  | t :: ts, k => fun w => List.replicate (t.count w) (k : Int) ++ whF ts (k + 1) w
theorem whF_snoc : ∀ (ts : List (List ByteArray)) (t : List ByteArray) (k : Nat) (w : ByteArray), whF (ts ++ [t]) k w = whF ts k w ++ List.replicate (t.count w) ((k + ts.length : Nat) : Int)
  | [], t, k, w => by simp [whF]
  | s :: ts, t, k, w => by
    simp only [List.cons_append, whF]
    rw [whF_snoc ts t (k + 1) w, List.append_assoc, List.length_cons, show k + 1 + ts.length = k + (ts.length + 1) by omega]
/-- Behind j words of the next text. -/
def whJ (ts : List (List ByteArray)) (t : List ByteArray) (j : Nat) : WF := fun w => whF ts 0 w ++ List.replicate ((t.take j).count w) (ts.length : Int)
theorem whJ_zero (ts : List (List ByteArray)) (t : List ByteArray) : whJ ts t 0 = whF ts 0 := by funext w; simp [whJ]
theorem whJ_all (ts : List (List ByteArray)) (t : List ByteArray) {n : Nat} (hn : t.length = n) : whJ ts t n = whF (ts ++ [t]) 0 := by
  funext w; rw [whF_snoc, whJ, ← hn, List.take_length, Nat.zero_add]
theorem whJ_next {ts : List (List ByteArray)} {t : List ByteArray} {n j : Nat} (hn : Hid (t.length = n)) (hj : j < n) {k : ByteArray} (hk : Hid (t.getD j str0 = k)) : updK (whJ ts t j) k (whJ ts t j k ++ [(ts.length : Int)]) = whJ ts t (j + 1) := by
  funext w
  unfold updK whJ
  rw [take_snocD str0 t j n hn.out hj, hk.out, List.count_append]
  by_cases e : w = k
  · subst e
    rw [if_pos rfl, List.append_assoc, List.count_singleton_self, ← List.replicate_append_replicate]; rfl
  · rw [if_neg e, List.count_singleton, if_neg (by simp; exact fun q => e q.symm), Nat.add_zero]
theorem whF_len : ∀ (ts : List (List ByteArray)) (k : Nat) (w : ByteArray), (∀ t ∈ ts, t.length ≤ 60) → (whF ts k w).length ≤ ts.length * 60
  | [], k, w, _ => by simp [whF]
  | t :: ts, k, w, h => by
    have h1 := whF_len ts (k + 1) w (fun t ht => h t (by simp [ht]))
    have h2 := h t (by simp)
    have h3 := List.count_le_length (a := w) (l := t)
    simp only [whF]
    rw [List.length_append, List.length_replicate, List.length_cons, Nat.succ_mul]
    omega
theorem whJ_len {ts : List (List ByteArray)} {t : List ByteArray} {j : Nat} (h : ∀ t ∈ ts, t.length ≤ 60) (ht : t.length ≤ 60) (w : ByteArray) : (whJ ts t j w).length ≤ ts.length * 60 + 60 := by
  have h1 := whF_len ts 0 w h
  have h2 := List.count_le_length (a := w) (l := t.take j)
  rw [List.length_take] at h2
  unfold whJ
  rw [List.length_append, List.length_replicate]
  omega
theorem txsF_len {stops : List ByteArray} {ends : List Endg} {xs : List Exm} {n k : Nat} (hn : Hid (xs.length = n)) (hk : k ≤ n) : (txsF stops ends xs k).length = k ∧ ∀ t ∈ txsF stops ends xs k, t.length ≤ 60 := by
  unfold txsF
  refine ⟨by rw [List.length_map, List.length_take, hn.out]; omega, fun t ht => ?_⟩
  obtain ⟨x, _, rfl⟩ := List.mem_map.1 ht
  exact wordsF_len _ _ _
theorem slSS : SliceTy Try.prog 56 23 (.slice none 0 0) (Rep.size Hdr) 24 := ⟨Try.underlying56, by kernel_rfl, rfl, by decide, by decide⟩
end Go.Proofs.Ytapkkplndhbapaa
