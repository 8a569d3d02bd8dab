/- The plain law of trimmed weights. The state of a call with a box, a row of numbers and a row of marks of its own. States that last over calls; the contracts of exact numbers, the program's and the reference's, over such a state. The plain law of Post: empty cells, fitted weights. make for elements of several cells; the walk of the program's empty. Frozen rows of raw numbers; the walk of the program's fitted, once for each change of weights. The walk of the program's Post. Conditions: the library's table of powers of ten reads as it was laid. The walks of the reference's nobody and Post. Conditions: the library's tables of blanks and of powers of ten read as they were laid. The law WeightPostMatchesSpec. Conditions: the library's tables of blanks and of powers of ten read as they were laid. Conditions: none beyond what the claim form gives. -/
import Derived.Test.YtmlpjffnmkndoaaGreatDoorJY
import Derived.Test.YtmlpjffnmkndoaaGreatDoorJX
import Derived.Deep.OwnRows
import Derived.Test.YtmlpjffnmkndoaaGreatDoorP12
import Derived.Test.YtmlpjffnmkndoaaGreatDoorP16
import Derived.Test.YtmlpjffnmkndoaaGreatDoorJE
import Derived.Test.YtmlpjffnmkndoaaGreatDoorB23
import Derived.Test.YtmlpjffnmkndoaaGreatDoorHT
import Derived.Outline
import Derived.Test.YtmlpjffnmkndoaaGreatDoorHS
import Derived.Deep.RegionHeldLaw
namespace Go.Proofs.YtmlpjffnmkndoaaGreatDoor
open Go.RowKit
set_option linter.unusedVariables false
set_option linter.unusedSimpArgs false
theorem cmpQ_pos {x y : Rat} : 0 < cmpQ x y ↔ y < x := by
  unfold cmpQ
  by_cases h1 : x < y
  · rw [if_pos h1]
    exact ⟨fun h => absurd h (by decide), fun h => absurd h (Rat.not_lt.2 (Rat.le_of_lt h1))⟩
  · rw [if_neg h1]
    by_cases h2 : x = y
    · rw [if_pos h2]
      exact ⟨fun h => absurd h (by decide), fun h => absurd (h2 ▸ h : y < y) (Rat.lt_irrefl)⟩
    · rw [if_neg h2]
      exact ⟨fun _ => by grind, fun _ => by decide⟩
theorem cmpQ_neg {x y : Rat} : cmpQ x y < 0 ↔ x < y := by
  unfold cmpQ
  by_cases h1 : x < y
  · rw [if_pos h1]; exact ⟨fun _ => h1, fun _ => by decide⟩
  · rw [if_neg h1]
    by_cases h2 : x = y
    · rw [if_pos h2]; exact ⟨fun h => absurd h (by decide), fun h => absurd h h1⟩
    · rw [if_neg h2]; exact ⟨fun h => absurd h (by decide), fun h => absurd h h1⟩
theorem sumF_le {f g : Nat → Rat} : ∀ {n : Nat}, (∀ i, i < n → f i ≤ g i) → sumF f n ≤ sumF g n
  | 0, _ => Rat.le_refl
  | n + 1, h => by
    show sumF f n + f n ≤ sumF g n + g n
    have h1 := sumF_le (n := n) (fun i hi => h i (by omega))
    have h2 := h n (by omega)
    grind
theorem sumF_lt {f g : Nat → Rat} : ∀ {n k : Nat}, (∀ i, i < n → f i ≤ g i) → k < n → f k < g k → sumF f n < sumF g n
  | n + 1, k, h, hk, hl => by
    show sumF f n + f n < sumF g n + g n
    have h2 := h n (by omega)
    by_cases e : k = n
    · subst e
      have h1 := sumF_le (f := f) (g := g) (n := k) (fun i hi => h i (by omega))
      grind
    · have h1 := sumF_lt (n := n) (k := k) (fun i hi => h i (by omega)) (by omega) hl
      grind
theorem sumF_zero : ∀ n, sumF (fun _ => 0) n = 0
  | 0 => rfl
  | n + 1 => by show sumF (fun _ => 0) n + 0 = 0; rw [sumF_zero n, Rat.add_zero]
/-- How many of the first are marked. -/
def cntN (c : List Bool) : Nat → Nat
  | 0 => 0
  | k + 1 => if c.getD k false then cntN c k + 1 else cntN c k
theorem cntN_le (c : List Bool) : ∀ n, cntN c n ≤ n
  | 0 => Nat.le_refl _
  | n + 1 => by
    have := cntN_le c n
    show (if c.getD n false then cntN c n + 1 else cntN c n) ≤ n + 1
    split <;> omega
theorem getD_set (c : List Bool) (i k : Nat) (h : i < c.length) : (c.set i true).getD k false = if k = i then true else c.getD k false := by
  simp only [List.getD_eq_getElem?_getD, List.getElem?_set]
  by_cases e : k = i
  · subst e; simp [h]
  · rw [if_neg (Ne.symm e), if_neg e]
theorem cntN_set_ge {c : List Bool} {i : Nat} (h : i < c.length) : ∀ {k : Nat}, k ≤ i → cntN (c.set i true) k = cntN c k
  | 0, _ => rfl
  | k + 1, hk => by
    show (if (c.set i true).getD k false then cntN (c.set i true) k + 1 else cntN (c.set i true) k) = if c.getD k false then cntN c k + 1 else cntN c k
    rw [getD_set c i k h, if_neg (show ¬ k = i by omega), cntN_set_ge h (by omega)]
theorem cntN_set {c : List Bool} {i : Nat} (h : i < c.length) (h0 : c.getD i false = false) : ∀ {k : Nat}, i < k → cntN (c.set i true) k = cntN c k + 1
  | k + 1, hk => by
    show (if (c.set i true).getD k false then cntN (c.set i true) k + 1 else cntN (c.set i true) k) = (if c.getD k false then cntN c k + 1 else cntN c k) + 1
    rw [getD_set c i k h]
    by_cases e : k = i
    · subst e
      rw [if_pos rfl, if_pos rfl, h0, cntN_set_ge h (Nat.le_refl _)]; rfl
    · rw [if_neg e, cntN_set h h0 (by omega)]
      split <;> rfl
/-- A pass: those above the bound are marked, up to the k-th. -/
def tkL (w : Nat → Rat) (b : Rat) (c : List Bool) : Nat → List Bool
  | 0 => c
  | k + 1 => if (tkL w b c k).getD k false = false ∧ b < w k then (tkL w b c k).set k true else tkL w b c k
def tkA (w : Nat → Rat) (b : Rat) (c : List Bool) : Nat → Bool
  | 0 => false
  | k + 1 => if (tkL w b c k).getD k false = false ∧ b < w k then true else tkA w b c k
section
variable {w : Nat → Rat} {b : Rat} {c : List Bool}
theorem tkL_len : ∀ k, (tkL w b c k).length = c.length
  | 0 => rfl
  | k + 1 => by
    show (if (tkL w b c k).getD k false = false ∧ b < w k then (tkL w b c k).set k true else tkL w b c k).length = _
    split
    · rw [List.length_set, tkL_len k]
    · exact tkL_len k
theorem tkL_get : ∀ {k : Nat}, k ≤ c.length → ∀ i, ((tkL w b c k).getD i false = true ↔ c.getD i false = true ∨ (i < k ∧ b < w i))
  | 0, _, i => by
    show c.getD i false = true ↔ _
    simp
  | k + 1, hk, i => by
    have ih := tkL_get (k := k) (by omega)
    show (if (tkL w b c k).getD k false = false ∧ b < w k then (tkL w b c k).set k true else tkL w b c k).getD i false = true ↔ _
    by_cases h : (tkL w b c k).getD k false = false ∧ b < w k
    · rw [if_pos h, getD_set _ _ _ (by rw [tkL_len]; omega)]
      by_cases e : i = k
      · subst e
        rw [if_pos rfl]
        exact ⟨fun _ => .inr ⟨by omega, h.2⟩, fun _ => rfl⟩
      · rw [if_neg e, ih i]
        constructor
        · rintro (h1 | ⟨h1, h2⟩)
          · exact .inl h1
          · exact .inr ⟨by omega, h2⟩
        · rintro (h1 | ⟨h1, h2⟩)
          · exact .inl h1
          · exact .inr ⟨by omega, h2⟩
    · rw [if_neg h, ih i]
      constructor
      · rintro (h1 | ⟨h1, h2⟩)
        · exact .inl h1
        · exact .inr ⟨by omega, h2⟩
      · rintro (h1 | ⟨h1, h2⟩)
        · exact .inl h1
        · by_cases e : i = k
          · subst e
            have h3 : ¬ (tkL w b c i).getD i false = false := fun h4 => h ⟨h4, h2⟩
            rw [Bool.not_eq_false, ih i] at h3
            exact h3
          · exact .inr ⟨by omega, h2⟩
/-- Nothing marked: the marks stay, and nobody is above the bound. -/
theorem tkA_no : ∀ {k : Nat}, tkA w b c k = false → tkL w b c k = c ∧ ∀ i, i < k → c.getD i false = false → ¬ b < w i
  | 0, _ => ⟨rfl, fun i hi => absurd hi (Nat.not_lt_zero i)⟩
  | k + 1, h => by
    have h' : (if (tkL w b c k).getD k false = false ∧ b < w k then true else tkA w b c k) = false := h
    by_cases hc : (tkL w b c k).getD k false = false ∧ b < w k
    · rw [if_pos hc] at h'; exact absurd h' (by decide)
    · rw [if_neg hc] at h'
      obtain ⟨h1, h2⟩ := tkA_no h'
      refine ⟨?_, fun i hi hn => ?_⟩
      · show (if (tkL w b c k).getD k false = false ∧ b < w k then (tkL w b c k).set k true else tkL w b c k) = c
        rw [if_neg hc]; exact h1
      · by_cases e : i = k
        · subst e; rw [h1] at hc; exact fun hb => hc ⟨hn, hb⟩
        · exact h2 i (by omega) hn
theorem tkA_cnt {n : Nat} (hn : c.length = n) : ∀ {k : Nat}, k ≤ n → cntN c n ≤ cntN (tkL w b c k) n ∧ (tkA w b c k = true → cntN c n < cntN (tkL w b c k) n)
  | 0, _ => ⟨Nat.le_refl _, fun h => Bool.noConfusion (show false = true from h)⟩
  | k + 1, hk => by
    obtain ⟨h1, h2⟩ := tkA_cnt hn (k := k) (by omega)
    show cntN c n ≤ cntN (if (tkL w b c k).getD k false = false ∧ b < w k then (tkL w b c k).set k true else tkL w b c k) n ∧ ((if (tkL w b c k).getD k false = false ∧ b < w k then true else tkA w b c k) = true → cntN c n < cntN (if (tkL w b c k).getD k false = false ∧ b < w k then (tkL w b c k).set k true else tkL w b c k) n)
    by_cases hc : (tkL w b c k).getD k false = false ∧ b < w k
    · rw [if_pos hc, if_pos hc, cntN_set (by rw [tkL_len]; omega) hc.1 (by omega)]
      exact ⟨by omega, fun _ => by omega⟩
    · rw [if_neg hc, if_neg hc]
      exact ⟨h1, h2⟩
theorem tk_yes {k : Nat} (h1 : (tkL w b c k).getD k false = false) (h2 : b < w k) : tkL w b c (k + 1) = (tkL w b c k).set k true ∧ tkA w b c (k + 1) = true := by
  constructor
  · show (if (tkL w b c k).getD k false = false ∧ b < w k then (tkL w b c k).set k true else tkL w b c k) = _
    rw [if_pos ⟨h1, h2⟩]
  · show (if (tkL w b c k).getD k false = false ∧ b < w k then true else tkA w b c k) = _
    rw [if_pos ⟨h1, h2⟩]
theorem tk_no {k : Nat} (h : ¬ ((tkL w b c k).getD k false = false ∧ b < w k)) : tkL w b c (k + 1) = tkL w b c k ∧ tkA w b c (k + 1) = tkA w b c k := by
  constructor
  · show (if (tkL w b c k).getD k false = false ∧ b < w k then (tkL w b c k).set k true else tkL w b c k) = _
    rw [if_neg h]
  · show (if (tkL w b c k).getD k false = false ∧ b < w k then true else tkA w b c k) = _
    rw [if_neg h]
end
/-- The sum of all weights; the bound; the sum of those that are not marked; what is left; a trimmed weight. -/
noncomputable def totQ (l : List Psn) : Rat := sumF (wgtQ l) l.length
noncomputable def bndQ (l : List Psn) (m : Rat) : Rat := m * totQ l / ((l.length : Int) : Rat)
noncomputable def rstF (l : List Psn) (c : List Bool) (i : Nat) : Rat := if c.getD i false then 0 else wgtQ l i
noncomputable def rstQ (l : List Psn) (c : List Bool) : Rat := sumF (rstF l c) l.length
noncomputable def lftQ (l : List Psn) (m : Rat) (c : List Bool) : Rat := totQ l - bndQ l m * ((cntN c l.length : Int) : Rat)
noncomputable def trmX (l : List Psn) (m : Rat) (c : List Bool) (i : Nat) : Rat := if c.getD i false then bndQ l m else wgtQ l i * (lftQ l m c) / rstQ l c
noncomputable def trS (l : List Psn) (m : Rat) : Nat → List Bool
  | 0 => List.replicate l.length false
  | r + 1 => tkL (trmX l m (trS l m r)) (bndQ l m) (trS l m r) l.length
noncomputable def trC (l : List Psn) (m : Rat) : List Bool := trS l m l.length
/-- Trim: the ratios, how many are marked, the error. -/
noncomputable def trmR (l : List Psn) (s t : ByteArray) : List Rti × Int × Int :=
  if pplF l ≠ 0 then ([], 0, pplF l) else if shoF s t ≠ 0 then ([], 0, shoF s t) else if ratX s t < 1 then ([], 0, 1) else if l.length = 0 then ([], 0, 0)
  else if (shtR ((List.range l.length).map (trmX l (ratX s t) (trC l (ratX s t))))).2 ≠ 0 then ([], 0, (shtR ((List.range l.length).map (trmX l (ratX s t) (trC l (ratX s t))))).2)
  else ((shtR ((List.range l.length).map (trmX l (ratX s t) (trC l (ratX s t))))).1, (cntN (trC l (ratX s t)) l.length : Int), 0)
section
variable {l : List Psn} {m : Rat}
theorem trS_len : ∀ r, (trS l m r).length = l.length
  | 0 => List.length_replicate ..
  | r + 1 => by show (tkL _ _ (trS l m r) l.length).length = _; rw [tkL_len, trS_len r]
theorem trS_fix {r : Nat} (h : trS l m (r + 1) = trS l m r) : ∀ q, trS l m (r + q) = trS l m r
  | 0 => rfl
  | q + 1 => by
    have ih := trS_fix h q
    show tkL (trmX l m (trS l m (r + q))) (bndQ l m) (trS l m (r + q)) l.length = _
    rw [ih]; exact h
theorem trC_fix {r : Nat} (hr : r ≤ l.length) (h : tkA (trmX l m (trS l m r)) (bndQ l m) (trS l m r) l.length = false) : trC l m = trS l m r := by
  have := trS_fix (l := l) (m := m) (r := r) (tkA_no h).1 (l.length - r)
  rw [show r + (l.length - r) = l.length by omega] at this
  exact this
theorem trS_cnt {r : Nat} (hr : r ≤ cntN (trS l m r) l.length) (h : tkA (trmX l m (trS l m r)) (bndQ l m) (trS l m r) l.length = true) : r + 1 ≤ cntN (trS l m (r + 1)) l.length := by
  have := (tkA_cnt (w := trmX l m (trS l m r)) (b := bndQ l m) (trS_len (l := l) (m := m) r) (Nat.le_refl l.length)).2 h
  show r + 1 ≤ cntN (tkL (trmX l m (trS l m r)) (bndQ l m) (trS l m r) l.length) l.length
  omega
theorem cntN_zero (n : Nat) : ∀ k, cntN (List.replicate n false) k = 0
  | 0 => rfl
  | k + 1 => by
    show (if (List.replicate n false).getD k false then _ else _) = 0
    rw [show (List.replicate n false).getD k false = false by
      simp only [List.getD_eq_getElem?_getD, List.getElem?_replicate]; split <;> rfl]
    exact cntN_zero n k
theorem rep_no (n k : Nat) : (List.replicate n false).getD k false = false := by
  simp only [List.getD_eq_getElem?_getD, List.getElem?_replicate]; split <;> rfl
theorem rst_zero : rstQ l (List.replicate l.length false) = totQ l :=
  sumF_congr (fun i _ => by unfold rstF; rw [rep_no]; rfl)
/-- At first all have their own weights. -/
theorem trm_zero (ht : totQ l ≠ 0) (i : Nat) : trmX l m (List.replicate l.length false) i = wgtQ l i := by
  unfold trmX lftQ
  rw [rep_no, rst_zero, cntN_zero]
  show wgtQ l i * (totQ l - bndQ l m * 0) / totQ l = wgtQ l i
  rw [show totQ l - bndQ l m * 0 = totQ l by grind, Rat.div_def, Rat.mul_assoc, Rat.mul_inv_cancel _ ht, Rat.mul_one]
theorem rstF_yes {c : List Bool} {k : Nat} (h : c.getD k false = true) : sumF (rstF l c) (k + 1) = sumF (rstF l c) k := by
  show sumF (rstF l c) k + rstF l c k = _
  have e : rstF l c k = 0 := by unfold rstF; rw [if_pos h]
  rw [e, Rat.add_zero]
theorem rstF_no {c : List Bool} {k : Nat} (h : c.getD k false = false) : sumF (rstF l c) (k + 1) = sumF (rstF l c) k + wgtQ l k := by
  show sumF (rstF l c) k + rstF l c k = _
  have e : rstF l c k = wgtQ l k := by unfold rstF; rw [h]; rfl
  rw [e]
theorem cut_sum (c : List Bool) (b f : Rat) : ∀ n, sumF (fun i => if c.getD i false then b else wgtQ l i * f) n = b * ((cntN c n : Int) : Rat) + sumF (rstF l c) n * f
  | 0 => by show (0 : Rat) = b * ((0 : Int) : Rat) + 0 * f; grind
  | n + 1 => by
    show sumF (fun i => if c.getD i false then b else wgtQ l i * f) n + (if c.getD n false then b else wgtQ l n * f) = _
    rw [cut_sum c b f n]
    by_cases h : c.getD n false = true
    · rw [if_pos h, rstF_yes h]
      have e : cntN c (n + 1) = cntN c n + 1 := by show (if c.getD n false then _ else _) = _; rw [if_pos h]
      rw [e, show (((cntN c n + 1 : Nat) : Int) : Rat) = ((cntN c n : Int) : Rat) + 1 by rw [Int.natCast_add, Rat.intCast_add]; rfl]
      grind
    · have h' : c.getD n false = false := by simpa using h
      rw [if_neg h, rstF_no h']
      have e : cntN c (n + 1) = cntN c n := by show (if c.getD n false then _ else _) = _; rw [if_neg h]
      rw [e]
      grind
theorem rst_pos {c : List Bool} (hw : ∀ j, j < l.length → 0 < wgtQ l j) {k : Nat} (hk : k < l.length) (h : c.getD k false = false) : 0 < rstQ l c := by
  have h1 := sumF_lt (f := fun _ => 0) (g := rstF l c) (n := l.length) (k := k) (fun i hi => by
    show (0 : Rat) ≤ rstF l c i
    unfold rstF
    split
    · exact Rat.le_refl
    · exact Rat.le_of_lt (hw i hi)) hk (by
    show (0 : Rat) < rstF l c k
    unfold rstF; rw [h]; exact hw k hk)
  rw [sumF_zero] at h1
  exact h1
theorem rst_ex {c : List Bool} : ∀ {n : Nat}, (∀ i, i < n → c.getD i false = true) → sumF (rstF l c) n = 0
  | 0, _ => rfl
  | n + 1, h => by rw [rstF_yes (h n (by omega)), rst_ex (fun i hi => h i (by omega))]
theorem cnt_all {c : List Bool} : ∀ {n : Nat}, (∀ i, i < n → c.getD i false = true) → cntN c n = n
  | 0, _ => rfl
  | n + 1, h => by
    show (if c.getD n false then _ else _) = _
    rw [if_pos (h n (by omega)), cnt_all (fun i hi => h i (by omega))]
theorem tot_pos (hw : ∀ j, j < l.length → 0 < wgtQ l j) (hn : 0 < l.length) : 0 < totQ l := by
  have := rst_pos (c := List.replicate l.length false) hw hn (rep_no _ _)
  rw [rst_zero] at this
  exact this
/-- What holds of the marks in all passes. -/
structure TrG (l : List Psn) (m : Rat) (c : List Bool) : Prop where
  up : ∀ i j, i < l.length → j < l.length → c.getD i false = true → wgtQ l i ≤ wgtQ l j → c.getD j false = true
  rest : 0 < rstQ l c
  left : 0 < lftQ l m c
theorem TrG.start (hw : ∀ j, j < l.length → 0 < wgtQ l j) (hn : 0 < l.length) : TrG l m (List.replicate l.length false) where
  up := fun i j _ _ h => by rw [rep_no] at h; exact absurd h (by decide)
  rest := by rw [rst_zero]; exact tot_pos hw hn
  left := by
    unfold lftQ
    rw [cntN_zero]
    show 0 < totQ l - bndQ l m * 0
    have := tot_pos hw hn
    grind
theorem bnd_n (hn : 0 < l.length) : bndQ l m * ((l.length : Int) : Rat) = m * totQ l := by
  unfold bndQ
  exact Rat.div_mul_cancel (by
    intro e
    have : (l.length : Int) = 0 := by exact_mod_cast e
    omega)
theorem TrG.sum {c : List Bool} (h : TrG l m c) : sumF (trmX l m c) l.length = totQ l := by
  have e : sumF (trmX l m c) l.length = sumF (fun i => if c.getD i false then bndQ l m else wgtQ l i * (lftQ l m c / rstQ l c)) l.length := sumF_congr (fun i _ => by
    show trmX l m c i = if c.getD i false then bndQ l m else wgtQ l i * (lftQ l m c / rstQ l c)
    unfold trmX
    rw [Rat.div_def, Rat.div_def, Rat.mul_assoc])
  rw [e, cut_sum]
  have h0 : rstQ l c ≠ 0 := fun e => by have := h.rest; rw [e] at this; exact absurd this (Rat.lt_irrefl)
  have h1 : sumF (rstF l c) l.length * (lftQ l m c / rstQ l c) = lftQ l m c := by
    show rstQ l c * (lftQ l m c / rstQ l c) = _
    rw [Rat.mul_comm, Rat.div_mul_cancel h0]
  rw [h1]
  unfold lftQ
  grind
theorem TrG.fac {c : List Bool} (h : TrG l m c) : 0 < lftQ l m c / rstQ l c := by
  rw [Rat.div_def]
  exact Rat.mul_pos h.left (Rat.inv_pos.2 h.rest)
theorem trm_no {c : List Bool} {i : Nat} (h : c.getD i false = false) : trmX l m c i = wgtQ l i * (lftQ l m c / rstQ l c) := by
  unfold trmX
  rw [h, Rat.div_def, Rat.div_def, ← Rat.mul_assoc]; rfl
theorem trm_yes {c : List Bool} {i : Nat} (h : c.getD i false = true) : trmX l m c i = bndQ l m := by
  unfold trmX; rw [if_pos h]
theorem TrG.step (hw : ∀ j, j < l.length → 0 < wgtQ l j) (hn : 0 < l.length) (hm : 1 ≤ m) {c : List Bool} (hl : c.length = l.length) (h : TrG l m c) : TrG l m (tkL (trmX l m c) (bndQ l m) c l.length) := by
  have hg := tkL_get (w := trmX l m c) (b := bndQ l m) (c := c) (k := l.length) (by rw [hl]; exact Nat.le_refl _)
  generalize tkL (trmX l m c) (bndQ l m) c l.length = d at *
  have hf := h.fac
  have hle : ∀ i, i < l.length → (if d.getD i false then bndQ l m else wgtQ l i * (lftQ l m c / rstQ l c)) ≤ trmX l m c i := fun i hi => by
    by_cases e : d.getD i false = true
    · rw [if_pos e]
      by_cases e2 : c.getD i false = true
      · rw [trm_yes e2]; exact Rat.le_refl
      · rcases (hg i).1 e with e3 | e3
        · exact absurd e3 e2
        · exact Rat.le_of_lt e3.2
    · rw [if_neg e]
      have e2 : c.getD i false = false := by
        cases hc : c.getD i false
        · rfl
        · exact absurd ((hg i).2 (.inl hc)) e
      rw [trm_no e2]; exact Rat.le_refl
  have hs := sumF_le hle
  rw [h.sum, cut_sum] at hs
  have hex : ∃ k, k < l.length ∧ d.getD k false = false := by
    refine Classical.byContradiction fun hno => ?_
    have hall : ∀ i, i < l.length → d.getD i false = true := fun i hi => by
      cases hd : d.getD i false
      · exact absurd ⟨i, hi, hd⟩ hno
      · rfl
    have hcx : ∃ k, k < l.length ∧ c.getD k false = false := by
      refine Classical.byContradiction fun hno2 => ?_
      have := rst_ex (l := l) (c := c) (n := l.length) (fun i hi => by
        cases hd : c.getD i false
        · exact absurd ⟨i, hi, hd⟩ hno2
        · rfl)
      have h1 := h.rest
      unfold rstQ at h1
      rw [this] at h1
      exact absurd h1 (Rat.lt_irrefl)
    obtain ⟨k, hk, hck⟩ := hcx
    have hlt := sumF_lt hle hk (by
      rw [if_pos (hall k hk)]
      rcases (hg k).1 (hall k hk) with e3 | e3
      · rw [hck] at e3; exact absurd e3 (by decide)
      · exact e3.2)
    rw [h.sum, cut_sum, cnt_all hall, rst_ex hall, bnd_n hn] at hlt
    have ht := tot_pos hw hn
    have : totQ l ≤ m * totQ l := by
      have := Rat.mul_le_mul_of_nonneg_right hm (Rat.le_of_lt ht)
      rwa [Rat.one_mul] at this
    grind
  obtain ⟨k, hk, hdk⟩ := hex
  have hr := rst_pos hw hk hdk
  refine ⟨fun i j hi hj hd hij => ?_, hr, ?_⟩
  · refine (hg j).2 ?_
    rcases (hg i).1 hd with e | ⟨_, e⟩
    · exact .inl (h.up i j hi hj e hij)
    · by_cases ej : c.getD j false = true
      · exact .inl ej
      · have ej : c.getD j false = false := by simpa using ej
        by_cases ei : c.getD i false = true
        · exact .inl (h.up i j hi hj ei hij)
        · have ei : c.getD i false = false := by simpa using ei
          refine .inr ⟨hj, ?_⟩
          rw [trm_no ei] at e
          rw [trm_no ej]
          have := Rat.mul_le_mul_of_nonneg_right hij (Rat.le_of_lt hf)
          grind
  · have h1 : 0 < sumF (rstF l d) l.length * (lftQ l m c / rstQ l c) := Rat.mul_pos hr hf
    unfold lftQ at *
    grind
theorem trS_good (hw : ∀ j, j < l.length → 0 < wgtQ l j) (hn : 0 < l.length) (hm : 1 ≤ m) : ∀ r, TrG l m (trS l m r)
  | 0 => TrG.start hw hn
  | r + 1 => (trS_good hw hn hm r).step hw hn hm (trS_len r)
/-- At the end nobody is above the bound, and the order stays. -/
theorem trm_le {c : List Bool} (h : tkA (trmX l m c) (bndQ l m) c l.length = false) {i : Nat} (hi : i < l.length) : trmX l m c i ≤ bndQ l m := by
  by_cases e : c.getD i false = true
  · rw [trm_yes e]; exact Rat.le_refl
  · exact Rat.not_lt.1 ((tkA_no h).2 i hi (by simpa using e))
theorem TrG.mono {c : List Bool} (hg : TrG l m c) (h : tkA (trmX l m c) (bndQ l m) c l.length = false) {i j : Nat} (hi : i < l.length) (hj : j < l.length) (hij : wgtQ l i ≤ wgtQ l j) : trmX l m c i ≤ trmX l m c j := by
  by_cases ej : c.getD j false = true
  · rw [trm_yes ej]; exact trm_le h hi
  · by_cases ei : c.getD i false = true
    · exact absurd (hg.up i j hi hj ei hij) ej
    · have ej : c.getD j false = false := by simpa using ej
      have ei : c.getD i false = false := by simpa using ei
      rw [trm_no ei, trm_no ej]
      exact Rat.mul_le_mul_of_nonneg_right hij (Rat.le_of_lt hg.fac)
theorem TrG.order {c : List Bool} (hg : TrG l m c) (h : tkA (trmX l m c) (bndQ l m) c l.length = false) {i j : Nat} (hi : i < l.length) (hj : j < l.length) : 0 ≤ cmpQ (wgtQ l i) (wgtQ l j) * cmpQ (trmX l m c i) (trmX l m c j) := by
  by_cases h1 : wgtQ l i ≤ wgtQ l j
  · have h2 := hg.mono h hi hj h1
    have a1 : cmpQ (wgtQ l i) (wgtQ l j) ≤ 0 := by
      have : ¬ 0 < cmpQ (wgtQ l i) (wgtQ l j) := fun e => Rat.not_lt.2 h1 (cmpQ_pos.1 e)
      omega
    have a2 : cmpQ (trmX l m c i) (trmX l m c j) ≤ 0 := by
      have : ¬ 0 < cmpQ (trmX l m c i) (trmX l m c j) := fun e => Rat.not_lt.2 h2 (cmpQ_pos.1 e)
      omega
    exact Int.mul_nonneg_of_nonpos_of_nonpos a1 a2
  · have h1 : wgtQ l j ≤ wgtQ l i := Rat.le_of_lt (Rat.not_le.1 h1)
    have h2 := hg.mono h hj hi h1
    have a1 : 0 ≤ cmpQ (wgtQ l i) (wgtQ l j) := by
      have : ¬ cmpQ (wgtQ l i) (wgtQ l j) < 0 := fun e => Rat.not_lt.2 h1 (cmpQ_neg.1 e)
      omega
    have a2 : 0 ≤ cmpQ (trmX l m c i) (trmX l m c j) := by
      have : ¬ cmpQ (trmX l m c i) (trmX l m c j) < 0 := fun e => Rat.not_lt.2 h2 (cmpQ_neg.1 e)
      omega
    exact Int.mul_nonneg a1 a2
/-- The end is reached. -/
theorem trC_end (hw : ∀ j, j < l.length → 0 < wgtQ l j) (hn : 0 < l.length) (hm : 1 ≤ m) : tkA (trmX l m (trC l m)) (bndQ l m) (trC l m) l.length = false := by
  have h : ∀ r, r ≤ l.length → r ≤ cntN (trS l m r) l.length ∨ ∃ q, q < r ∧ tkA (trmX l m (trS l m q)) (bndQ l m) (trS l m q) l.length = false := by
    intro r
    induction r with
    | zero => exact fun _ => .inl (Nat.zero_le _)
    | succ r ih =>
      intro hr
      rcases ih (by omega) with h1 | ⟨q, hq, h1⟩
      · cases hb : tkA (trmX l m (trS l m r)) (bndQ l m) (trS l m r) l.length
        · exact .inr ⟨r, by omega, hb⟩
        · exact .inl (trS_cnt h1 hb)
      · exact .inr ⟨q, by omega, h1⟩
  rcases h l.length (Nat.le_refl _) with h1 | ⟨q, hq, h1⟩
  · cases hb : tkA (trmX l m (trC l m)) (bndQ l m) (trC l m) l.length
    · rfl
    · have h2 := trS_cnt (r := l.length) h1 hb
      have h3 := cntN_le (trS l m (l.length + 1)) l.length
      omega
  · have h2 := trC_fix (Nat.le_of_lt hq) h1
    rw [h2]; exact h1
end
end Go.Proofs.YtmlpjffnmkndoaaGreatDoor

namespace Go.Proofs.YtmlpjffnmkndoaaGreatDoor
open Go.RowKit
set_option linter.unusedVariables false
set_option linter.unusedSimpArgs false
theorem Own.setNe {α : Type} [Rep α] {B : Nat} {φ : Phi} {w : World} {E : TypeId} {g cap : Nat} {xs : List α} (h : Own B φ w E (some ⟨g, 0, none⟩) cap xs) {b k : Nat} {v : Value} (hne : g ≠ b) : Own B φ (w.setCell ⟨b, k, none⟩ v) E (some ⟨g, 0, none⟩) cap xs :=
  h.other (row := some b) ⟨rfl, rfl, rfl, by simp [World.setCell], fun q _ hq => Below.heap_setCell _ _ _ _ (by intro e; exact hq (by rw [e]))⟩ (fun x hx e => by cases hx; cases e; exact hne rfl)
theorem RsSt.setNe {w0 wr : World} {φ0 φ : Phi} {b g : Nat} {cs : Array Value} {T : TypeId} (h : RsSt w0 φ0 φ b cs T wr) (hg : w0.heap.size ≤ g) (hf : φ g = none) (hne : g ≠ b) (j : Nat) (u : Value) : RsSt w0 φ0 φ b cs T (wr.setCell ⟨g, j, none⟩ u) := ⟨h.inv.setCell hg hf u, h.k.other hne u, h.f, h.l⟩
theorem Own.markD {B : Nat} {φ : Phi} {w : World} {E : TypeId} {a : Option Addr} {cap : Nat} {xs : List Bool} (h : Own B φ w E a cap xs) {k n : Nat} (hn : Hid (xs.length = n)) (hk : k < n) :
    ∃ g, a = some ⟨g, 0, none⟩ ∧ g < w.heap.size ∧ ∀ k, k < n → w.cell? ⟨g, k, none⟩ = some (.bool (xs.getD k false)) ∧ w.frozen? ⟨g, k, none⟩ = false ∧
      ∀ y w0 φ0, Inv B w0 φ0 φ w → Own B φ (w.setCell ⟨g, k, none⟩ (.bool y)) E a cap (xs.set k y) ∧ Inv B w0 φ0 φ (w.setCell ⟨g, k, none⟩ (.bool y)) := by
  obtain ⟨g, rfl, _, hg, _, hf, hc⟩ := h.elem (k := k) (by rw [hn.out]; exact hk)
  refine ⟨g, rfl, hg, fun k hk => ?_⟩
  have hk' : k < xs.length := by rw [hn.out]; exact hk
  obtain ⟨cs, hcs, hj⟩ := hc k hk'
  have hcs' : cs = [.bool xs[k]] := hcs
  subst hcs'
  have h0 := hj 0 (by simp)
  simp [Rep.size] at h0
  refine ⟨by rw [h0, getD_elem0 _ _ _ hk'], hf k, fun y w0 φ0 hi => ?_⟩
  have := h.setCell hi hk' (y := y) (j := 0) (u := .bool y) hj rfl (by simp) rfl
  simpa [Rep.size] using this
/-- Two rows of the call's own: numbers and marks. -/
structure TwS (E : TypeId) (w0 : World) (φ0 φ : Phi) (g cg : Nat) (rs : List Raw3) (e ce : Nat) (c : List Bool) (W : World) : Prop where
  inv : Inv w0.heap.size w0 φ0 φ W
  o : Own w0.heap.size φ W E (some ⟨g, 0, none⟩) cg rs
  k : Own w0.heap.size φ W 4 (some ⟨e, 0, none⟩) ce c
  n3 : g ≠ e
/-- The same beside a box. -/
structure TqS (T E : TypeId) (w0 : World) (φ0 φ : Phi) (b : Nat) (cs : Array Value) (g cg : Nat) (rs : List Raw3) (e ce : Nat) (c : List Bool) (W : World) : Prop where
  r : RsSt w0 φ0 φ b cs T W
  t : TwS E w0 φ0 φ g cg rs e ce c W
  n1 : g ≠ b
  n2 : e ≠ b
section
variable {T E : TypeId} {w0 W w' : World} {φ0 φ φ' : Phi} {b : Nat} {cs : Array Value} {g cg : Nat} {rs : List Raw3} {e ce : Nat} {c : List Bool}
theorem TwS.call (h : TwS E w0 φ0 φ g cg rs e ce c W) (hi : Inv W.heap.size W φ φ' w') : TwS E w0 φ0 φ' g cg rs e ce c w' := ⟨h.inv.call hi, h.o.call hi, h.k.call hi, h.n3⟩
theorem TwS.callB (h : TwS E w0 φ0 φ g cg rs e ce c W) (hb : Below W.heap.size W w') : TwS E w0 φ0 φ g cg rs e ce c w' := ⟨h.inv.callB hb, h.o.callB hb, h.k.callB hb, h.n3⟩
theorem TwS.drew (h : TwS E w0 φ0 φ g cg rs e ce c W) : TwS E w0 φ0 φ g cg rs e ce c W.drew := h.callB (bdrewN (Below.refl _ W) 1)
theorem TwS.alloc (h : TwS E w0 φ0 φ g cg rs e ce c W) (o : Obj) : TwS E w0 φ0 φ g cg rs e ce c (W.alloc o) := h.callB ((Below.refl _ _).alloc (Nat.le_refl _) _)
theorem TwS.setE (h : TwS E w0 φ0 φ g cg rs e ce c W) {k n : Nat} (hn : Hid (c.length = n)) (hk : k < n) (y : Bool) : TwS E w0 φ0 φ g cg rs e ce (c.set k y) (W.setCell ⟨e, k, none⟩ (.bool y)) := by
  obtain ⟨g', hg', _, hh⟩ := h.k.markD hn hk
  cases hg'
  obtain ⟨h1, h2⟩ := (hh k hk).2.2 y w0 φ0 h.inv
  exact ⟨h2, h.o.setNe h.n3, h1, h.n3⟩
theorem TwS.setO (h : TwS E w0 φ0 φ g cg rs e ce c W) {k n : Nat} (hn : Hid (rs.length = n)) (hk : k < n) (g0 : Bool) (a1 : Option Addr) (k1 c1 : Nat) (a2 : Option Addr) (k2 c2 : Nat) : TwS E w0 φ0 φ g cg (rs.set k ⟨g0, a1, k1, c1, a2, k2, c2⟩) e ce c (((W.setCell ⟨g, k * 3, none⟩ (.bool g0)).setCell ⟨g, k * 3 + 1, none⟩ (.slice a1 k1 c1)).setCell ⟨g, k * 3 + 2, none⟩ (.slice a2 k2 c2)) := by
  obtain ⟨g', hg', _, _, _, _, _, _, _, hh⟩ := h.o.rawD hn hk
  cases hg'
  obtain ⟨h1, h2⟩ := hh ⟨g0, a1, k1, c1, a2, k2, c2⟩ w0 φ0 h.inv
  exact ⟨h2, h1, ((h.k.setNe (Ne.symm h.n3)).setNe (Ne.symm h.n3)).setNe (Ne.symm h.n3), h.n3⟩
theorem TwS.mark (h : TwS E w0 φ0 φ g cg rs e ce c W) {k n : Nat} (hn : Hid (c.length = n)) (hk : k < n) : W.cell? ⟨e, k, none⟩ = some (.bool (c.getD k false)) ∧ W.frozen? ⟨e, k, none⟩ = false := by
  obtain ⟨g', hg', _, hh⟩ := h.k.markD hn hk
  cases hg'
  exact ⟨(hh k hk).1, (hh k hk).2.1⟩
theorem TwS.num (h : TwS E w0 φ0 φ g cg rs e ce c W) {k n : Nat} (hn : Hid (rs.length = n)) (hk : k < n) : W.cell? ⟨g, k * 3, none⟩ = some (.bool (rs.getD k raw0).g) ∧ W.cell? ⟨g, k * 3 + 1, none⟩ = some (.slice (rs.getD k raw0).a1 (rs.getD k raw0).k1 (rs.getD k raw0).c1) ∧ W.cell? ⟨g, k * 3 + 2, none⟩ = some (.slice (rs.getD k raw0).a2 (rs.getD k raw0).k2 (rs.getD k raw0).c2) ∧ (∀ j, W.frozen? ⟨g, j, none⟩ = false) := by
  obtain ⟨g', hg', _, _, _, h1, h2, h3, h4, _⟩ := h.o.rawD hn hk
  cases hg'
  exact ⟨h1, h2, h3, h4⟩
theorem TwS.gl (h : TwS E w0 φ0 φ g cg rs e ce c W) : w0.heap.size ≤ g ∧ φ g = none ∧ g < W.heap.size := ⟨(h.o.lt _ rfl).1, h.o.free _ rfl, (h.o.lt _ rfl).2⟩
theorem TwS.el (h : TwS E w0 φ0 φ g cg rs e ce c W) : w0.heap.size ≤ e ∧ φ e = none ∧ e < W.heap.size := ⟨(h.k.lt _ rfl).1, h.k.free _ rfl, (h.k.lt _ rfl).2⟩
theorem TqS.call (h : TqS T E w0 φ0 φ b cs g cg rs e ce c W) (hi : Inv W.heap.size W φ φ' w') : TqS T E w0 φ0 φ' b cs g cg rs e ce c w' := ⟨h.r.call hi, h.t.call hi, h.n1, h.n2⟩
theorem TqS.callB (h : TqS T E w0 φ0 φ b cs g cg rs e ce c W) (hb : Below W.heap.size W w') : TqS T E w0 φ0 φ b cs g cg rs e ce c w' := ⟨h.r.callB hb, h.t.callB hb, h.n1, h.n2⟩
theorem TqS.drew (h : TqS T E w0 φ0 φ b cs g cg rs e ce c W) : TqS T E w0 φ0 φ b cs g cg rs e ce c W.drew := h.callB (bdrewN (Below.refl _ W) 1)
theorem TqS.setB (h : TqS T E w0 φ0 φ b cs g cg rs e ce c W) (j : Nat) (u : Value) : TqS T E w0 φ0 φ b (cs.setIfInBounds j u) g cg rs e ce c (W.setCell ⟨b, j, none⟩ u) :=
  ⟨h.r.set j u, ⟨(h.r.set j u).inv, h.t.o.setNe h.n1, h.t.k.setNe h.n2, h.t.n3⟩, h.n1, h.n2⟩
theorem TqS.setE (h : TqS T E w0 φ0 φ b cs g cg rs e ce c W) {k n : Nat} (hn : Hid (c.length = n)) (hk : k < n) (y : Bool) : TqS T E w0 φ0 φ b cs g cg rs e ce (c.set k y) (W.setCell ⟨e, k, none⟩ (.bool y)) :=
  ⟨h.r.setNe h.t.el.1 h.t.el.2.1 h.n2 _ _, h.t.setE hn hk y, h.n1, h.n2⟩
theorem TqS.setO (h : TqS T E w0 φ0 φ b cs g cg rs e ce c W) {k n : Nat} (hn : Hid (rs.length = n)) (hk : k < n) (g0 : Bool) (a1 : Option Addr) (k1 c1 : Nat) (a2 : Option Addr) (k2 c2 : Nat) : TqS T E w0 φ0 φ b cs g cg (rs.set k ⟨g0, a1, k1, c1, a2, k2, c2⟩) e ce c (((W.setCell ⟨g, k * 3, none⟩ (.bool g0)).setCell ⟨g, k * 3 + 1, none⟩ (.slice a1 k1 c1)).setCell ⟨g, k * 3 + 2, none⟩ (.slice a2 k2 c2)) :=
  ⟨((h.r.setNe h.t.gl.1 h.t.gl.2.1 h.n1 _ _).setNe h.t.gl.1 h.t.gl.2.1 h.n1 _ _).setNe h.t.gl.1 h.t.gl.2.1 h.n1 _ _, h.t.setO hn hk g0 a1 k1 c1 a2 k2 c2, h.n1, h.n2⟩
theorem TqS.put3 {c0 c1 c2 : Value} (h : TqS T E w0 φ0 φ b #[c0, c1, c2] g cg rs e ce c W) (u0 u1 u2 : Value) : TqS T E w0 φ0 φ b #[u0, u1, u2] g cg rs e ce c (((W.setCell ⟨b, 0, none⟩ u0).setCell ⟨b, 1, none⟩ u1).setCell ⟨b, 2, none⟩ u2) := ((h.setB 0 u0).setB 1 u1).setB 2 u2
theorem TqS.new (h : TwS E w0 φ0 φ g cg rs e ce c W) (cs : Array Value) (T : TypeId) : TqS T E w0 φ0 φ W.heap.size cs g cg rs e ce c (W.alloc (.cells cs T)) :=
  ⟨RsSt.start h.inv cs T, h.alloc _, by have := h.gl.2.2; omega, by have := h.el.2.2; omega⟩
/-- The box is frozen. -/
theorem TqS.frz (h : TqS T E w0 φ0 φ b cs g cg rs e ce c W) : ∃ φ', φ.le φ' ∧ TwS E w0 φ0 φ' g cg rs e ce c W ∧ φ' b = some (.cells cs T) := by
  obtain ⟨φ1, l1, i1, e1, f1⟩ := h.r.inv.frzAt h.r.k h.r.l
  exact ⟨φ1, l1, ⟨i1, h.t.o.frz l1 (fun x hx => by cases hx; exact f1 g h.n1), h.t.k.frz l1 (fun x hx => by cases hx; exact f1 e h.n2), h.t.n3⟩, e1⟩
end
/-- The marks in a world, as a measure. -/
def markW (W : World) (e i : Nat) : Bool := match W.cell? ⟨e, i, none⟩ with | some (.bool b) => b | _ => false
def cntW (W : World) (e n : Nat) : Nat := cntN ((List.range n).map (markW W e)) n
theorem cntN_congr {c d : List Bool} : ∀ {n : Nat}, (∀ i, i < n → c.getD i false = d.getD i false) → cntN c n = cntN d n
  | 0, _ => rfl
  | n + 1, h => by
    show (if c.getD n false then cntN c n + 1 else cntN c n) = if d.getD n false then cntN d n + 1 else cntN d n
    rw [h n (by omega), cntN_congr (fun i hi => h i (by omega))]
theorem TwS.cnt {E : TypeId} {w0 W : World} {φ0 φ : Phi} {g cg : Nat} {rs : List Raw3} {e ce : Nat} {c : List Bool} (h : TwS E w0 φ0 φ g cg rs e ce c W) {n : Nat} (hn : Hid (c.length = n)) : cntW W e n = cntN c n := by
  refine cntN_congr (fun i hi => ?_)
  have h1 := (h.mark hn hi).1
  simp only [List.getD_eq_getElem?_getD, List.getElem?_map, List.getElem?_range hi, Option.map_some, Option.getD_some]
  unfold markW
  rw [h1]
  simp [List.getD_eq_getElem?_getD]
/-- make of marks, as an equation. -/
theorem makeB_eq (n : Nat) (h : n ≤ 281474976710656) (w : World) : (Instr.makeSlice 108 (.int .i64 (n : Int)) (.int .i64 (n : Int))).run Tryz.prog w = .ok (.slice (some ⟨w.heap.size, 0, none⟩) n n) (w.alloc (.cells (madeCells #[.bool false] n) 4)) :=
  run_make_row' 108 4 (.bool false) 1 Tryz.underlying108 (by kernel_rfl) rfl .i64 .i64 n (by omega) (by omega) w
theorem madeB_list (n : Nat) : (madeCells #[Value.bool false] n).toList = List.replicate n (Value.bool false) := by
  unfold madeCells
  rw [Array.toList_map, Array.toList_range]
  apply List.ext_getElem
  · simp
  · intro i h1 h2
    simp [Nat.mod_one]
theorem Own.madeB {B : Nat} {w0 w : World} {φ0 φ : Phi} (hi : Inv B w0 φ0 φ w) (E : TypeId) (n : Nat) (hn : n ≤ maxLen) : Own B φ (w.alloc (.cells (madeCells #[.bool false] n) E)) E (some ⟨w.heap.size, 0, none⟩) n (List.replicate n false) := by
  have hr : RepL φ (List.replicate n false) (madeCells #[.bool false] n).toList := by
    rw [madeB_list]
    have h := RepL.replicate (φ := φ) (α := Bool) (y := false) (rfl : Rep.rep φ false [Value.bool false]) n
    have e : (List.replicate n [Value.bool false]).flatten = List.replicate n (Value.bool false) := by simp
    rwa [e] at h
  have := Own.lit hi E hr (by rw [List.length_replicate]; exact hn)
  rwa [List.length_replicate] at this
end Go.Proofs.YtmlpjffnmkndoaaGreatDoor

namespace Go.Proofs.YtmlpjffnmkndoaaGreatDoor
open Go.RowKit
set_option linter.unusedVariables false
set_option linter.unusedSimpArgs false
/-- A state that lasts over calls. -/
structure Sta (P : Phi → World → Prop) : Prop where
  fz : ∀ {φ W}, P φ W → Fz φ W
  call : ∀ {φ W φ' w'}, P φ W → Inv W.heap.size W φ φ' w' → P φ' w'
section
variable {P : Phi → World → Prop} {φ : Phi} {W : World} {M : Nat}
theorem Sta.callB (hP : Sta P) (h : P φ W) {w' : World} (hb : Below W.heap.size W w') : P φ w' := hP.call h ((Inv.start (hP.fz h)).callB hb)
def FrS (P : Phi → World → Prop) (φ : Phi) (x : Rat) (N D : Nat) (e : Ending) (w' : World) : Prop :=
  ∃ (g : Bool) (a1 : Option Addr) (k1 c1 : Nat) (a2 : Option Addr) (k2 c2 : Nat) (φ' : Phi), e = .returned (.agg #[.bool g, .slice a1 k1 c1, .slice a2 k2 c2]) ∧ Hid (P φ' w') ∧ Hid (φ.le φ') ∧ Hid (FrX φ' (.agg #[.bool g, .slice a1 k1 c1, .slice a2 k2 c2]) x N D)
theorem FrS.of (hP : Sta P) {y : Rat} {N D N' D' : Nat} (hN : N ≤ N') (hDD : D ≤ D') (h : Hid (P φ W)) {en : Ending} {w' : World} (hp : FrXP y N D φ W en w') : FrS P φ y N' D' en w' := by
  obtain ⟨v, φ', rfl, hi, hv⟩ := hp
  have hv := hv.le hN hDD
  obtain ⟨g, n, d, k1, k2, a1, c1, a2, c2, rfl, _⟩ := hv.open
  exact ⟨g, a1, k1, c1, a2, k2, c2, φ', rfl, Lib.hid (hP.call h.out hi), Lib.hid hi.le, Lib.hid hv⟩
theorem RFracOf_P (hP : Sta P) {s t : ByteArray} (h : Hid (RatOk s t)) {x : Rat} (hx : Hid (ratX s t = x)) {N D : Nat} (hB : Hid (dV (bodyB s).data.toList ≤ N ∧ dV t.data.toList ≤ D)) (hS : Hid (P φ W)) :
    Calls Tryz.prog 12 #[.agg #[.string s, .string t]] W (FrS P φ x N D) :=
  (RFracOf_any h.out (hP.fz hS.out)).mono (fun en w' hp => by rw [hx.out] at hp; exact FrS.of hP hB.out.1 hB.out.2 hS hp)
theorem RWhole_P (hP : Sta P) {q n : Nat} (hq : Hid (q ≤ n ∧ n ≤ 3000)) (hS : Hid (P φ W)) :
    Calls Tryz.prog 37 #[.int .i64 (q : Int)] W (FrS P φ (((q : Nat) : Int) : Rat) n 1) :=
  (RWhole_any (n := (q : Int)) (by omega) (by have := hq.out; omega) (hP.fz hS.out)).mono (fun en w' hp => FrS.of hP (by have := hq.out; omega) (Nat.le_refl _) hS hp)
theorem RPlus_P (hP : Sta P) (hD : Hid (RdivOk M)) (hM : LenB M) {v1 v2 : Value} {x y : Rat} {N1 D1 N2 D2 : Nat} {ψ : Phi} (h1 : Hid (FrX ψ v1 x N1 D1)) (hl : Hid (ψ.le φ)) (h2 : Hid (FrX φ v2 y N2 D2)) (hB : Hid (N1 * D2 + N2 * D1 ≤ M ∧ D1 * D2 ≤ M)) {N D : Nat} (hN : Hid (N1 * D2 + N2 * D1 ≤ N ∧ D1 * D2 ≤ D)) (hS : Hid (P φ W)) :
    Calls Tryz.prog 38 #[v1, v2] W (FrS P φ (x + y) N D) :=
  (RPlus_any hD hM (hP.fz hS.out) (h1.out.mono hl.out) h2.out hB.out.1 hB.out.2).mono (fun en w' hp => FrS.of hP hN.out.1 hN.out.2 hS hp)
theorem RMinus_P (hP : Sta P) (hD : Hid (RdivOk M)) (hM : LenB M) {v1 v2 : Value} {x y : Rat} {N1 D1 N2 D2 : Nat} {ψ : Phi} (h1 : Hid (FrX ψ v1 x N1 D1)) (hl : Hid (ψ.le φ)) (h2 : Hid (FrX φ v2 y N2 D2)) (hB : Hid (N1 * D2 + N2 * D1 ≤ M ∧ D1 * D2 ≤ M)) {N D : Nat} (hN : Hid (N1 * D2 + N2 * D1 ≤ N ∧ D1 * D2 ≤ D)) (hS : Hid (P φ W)) :
    Calls Tryz.prog 15 #[v1, v2] W (FrS P φ (x - y) N D) :=
  (RMinus_any hD hM (hP.fz hS.out) (h1.out.mono hl.out) h2.out hB.out.1 hB.out.2).mono (fun en w' hp => FrS.of hP hN.out.1 hN.out.2 hS hp)
theorem RTimes_P (hP : Sta P) (hD : Hid (RdivOk M)) (hM : LenB M) {v1 v2 : Value} {x y : Rat} {N1 D1 N2 D2 : Nat} {ψ ψ2 : Phi} (h1 : Hid (FrX ψ v1 x N1 D1)) (hl : Hid (ψ.le φ)) (h2 : Hid (FrX ψ2 v2 y N2 D2)) (hl2 : Hid (ψ2.le φ)) (hB : Hid (N1 * N2 ≤ M ∧ D1 * D2 ≤ M ∧ N1 ≤ M ∧ N2 ≤ M)) {N D : Nat} (hN : Hid (N1 * N2 ≤ N ∧ D1 * D2 ≤ D)) (hS : Hid (P φ W)) :
    Calls Tryz.prog 70 #[v1, v2] W (FrS P φ (x * y) N D) :=
  (RTimes_any hD hM (hP.fz hS.out) (h1.out.mono hl.out) (h2.out.mono hl2.out) hB.out.1 hB.out.2.1 hB.out.2.2.1 hB.out.2.2.2).mono (fun en w' hp => FrS.of hP hN.out.1 hN.out.2 hS hp)
theorem ROver_P (hP : Sta P) (hD : Hid (RdivOk M)) (hM : LenB M) {v1 v2 : Value} {x y : Rat} {N1 D1 N2 D2 : Nat} {ψ ψ2 : Phi} (h1 : Hid (FrX ψ v1 x N1 D1)) (hl : Hid (ψ.le φ)) (h2 : Hid (FrX ψ2 v2 y N2 D2)) (hl2 : Hid (ψ2.le φ)) (hy : Hid (y ≠ 0)) (hB : Hid (N1 * D2 ≤ M ∧ D1 * N2 ≤ M ∧ D2 ≤ M)) {N D : Nat} (hN : Hid (N1 * D2 ≤ N ∧ D1 * N2 ≤ D)) (hS : Hid (P φ W)) :
    Calls Tryz.prog 71 #[v1, v2] W (FrS P φ (x / y) N D) :=
  (ROver_any hD hM (hP.fz hS.out) (h1.out.mono hl.out) (h2.out.mono hl2.out) hy.out hB.out.1 hB.out.2.1 hB.out.2.2).mono (fun en w' hp => FrS.of hP hN.out.1 hN.out.2 hS hp)
theorem ROpposite_P (hP : Sta P) {v : Value} {x : Rat} {N D : Nat} {ψ : Phi} (h1 : Hid (FrX ψ v x N D)) (hl : Hid (ψ.le φ)) (hS : Hid (P φ W)) :
    Calls Tryz.prog 17 #[v] W (FrS P φ (-x) N D) :=
  (ROpposite_any (hP.fz hS.out) (h1.out.mono hl.out)).mono (fun en w' hp => FrS.of hP (Nat.le_refl _) (Nat.le_refl _) hS hp)
theorem ROrder_P (hP : Sta P) (hD : Hid (RdivOk M)) (hM : LenB M) {v1 v2 : Value} {x y : Rat} {N1 D1 N2 D2 : Nat} {ψ ψ2 : Phi} (h1 : Hid (FrX ψ v1 x N1 D1)) (hl : Hid (ψ.le φ)) (h2 : Hid (FrX ψ2 v2 y N2 D2)) (hl2 : Hid (ψ2.le φ)) (hB : Hid (N1 * D2 + N2 * D1 ≤ M ∧ D1 * D2 ≤ M)) {q : Int} (hq : Hid (cmpQ x y = q)) (hS : Hid (P φ W)) :
    Calls Tryz.prog 11 #[v1, v2] W (fun e w' => ∃ φ', e = .returned (.int .i64 q) ∧ Hid (P φ' w') ∧ Hid (φ.le φ')) :=
  (ROrder_any hD hM (hP.fz hS.out) (h1.out.mono hl.out) (h2.out.mono hl2.out) hB.out.1 hB.out.2 hq).mono (fun en w' hp => ⟨φ, hp.1, Lib.hid (hP.callB hS.out hp.2), Lib.hid φ.le_refl⟩)
theorem RZero_P (hP : Sta P) {v : Value} {x : Rat} {N D : Nat} {ψ : Phi} (h1 : Hid (FrX ψ v x N D)) (hl : Hid (ψ.le φ)) {b : Bool} (hb : Hid (decide (x = 0) = b)) (hS : Hid (P φ W)) :
    Calls Tryz.prog 39 #[v] W (fun e w' => e = .returned (.bool b) ∧ Hid (P φ w')) :=
  (RZero_any (hP.fz hS.out) (h1.out.mono hl.out) hb).mono (fun en w' hp => ⟨hp.1, Lib.hid (hP.callB hS.out hp.2)⟩)
/-- The same of the program's numbers. -/
def FfS (P : Phi → World → Prop) (φ : Phi) (x : Rat) (N D : Nat) (e : Ending) (w' : World) : Prop :=
  ∃ (g : Bool) (a1 : Option Addr) (k1 c1 : Nat) (a2 : Option Addr) (k2 c2 : Nat) (φ' : Phi), e = .returned (.agg #[.bool g, .slice a1 k1 c1, .slice a2 k2 c2]) ∧ Hid (P φ' w') ∧ Hid (φ.le φ') ∧ Hid (FfX φ' (.agg #[.bool g, .slice a1 k1 c1, .slice a2 k2 c2]) x N D)
theorem FfS.of (hP : Sta P) {y : Rat} {N D N' D' : Nat} (hN : N ≤ N') (hDD : D ≤ D') (h : Hid (P φ W)) {en : Ending} {w' : World} (hp : FfXP y N D φ W en w') : FfS P φ y N' D' en w' := by
  obtain ⟨v, φ', rfl, hi, hv⟩ := hp
  have hv := hv.le hN hDD
  obtain ⟨g, n, d, k1, k2, a1, c1, a2, c2, rfl, _⟩ := hv.open
  exact ⟨g, a1, k1, c1, a2, k2, c2, φ', rfl, Lib.hid (hP.call h.out hi), Lib.hid hi.le, Lib.hid hv⟩
theorem FracOf_P (hP : Sta P) (hD : Hid (DivOk M)) (hM2 : p10 2000 ≤ M) {s t : ByteArray} (hs : Hid (s.size ≤ 9223372036854775807 ∧ t.size ≤ 9223372036854775807)) (h : Hid (ratF s t = 0)) {x : Rat} (hx : Hid (ratX s t = x)) {N D : Nat} (hB : Hid (dV (bodyB s).data.toList ≤ N ∧ dV t.data.toList ≤ D)) (hS : Hid (P φ W)) :
    Calls Tryz.prog 42 #[.agg #[.string s, .string t]] W (FfS P φ x N D) :=
  (FracOf_any hD hM2 hs.out.1 hs.out.2 h (hP.fz hS.out)).mono (fun en w' hp => by rw [hx.out] at hp; exact FfS.of hP hB.out.1 hB.out.2 hS hp)
theorem Minus_P (hP : Sta P) (hD : Hid (DivOk M)) (hM : LenB M) {v1 v2 : Value} {x y : Rat} {N1 D1 N2 D2 : Nat} {ψ ψ2 : Phi} (h1 : Hid (FfX ψ v1 x N1 D1)) (hl : Hid (ψ.le φ)) (h2 : Hid (FfX ψ2 v2 y N2 D2)) (hl2 : Hid (ψ2.le φ)) (hB : Hid (N1 * D2 + N2 * D1 ≤ M ∧ D1 * D2 ≤ M)) {N D : Nat} (hN : Hid (N1 * D2 + N2 * D1 ≤ N ∧ D1 * D2 ≤ D)) (hS : Hid (P φ W)) :
    Calls Tryz.prog 90 #[v1, v2] W (FfS P φ (x - y) N D) :=
  (Minus_any hD hM (hP.fz hS.out) (h1.out.mono hl.out) (h2.out.mono hl2.out) hB.out.1 hB.out.2).mono (fun en w' hp => FfS.of hP hN.out.1 hN.out.2 hS hp)
theorem Times_P (hP : Sta P) (hD : Hid (DivOk M)) (hM : LenB M) {v1 v2 : Value} {x y : Rat} {N1 D1 N2 D2 : Nat} {ψ ψ2 : Phi} (h1 : Hid (FfX ψ v1 x N1 D1)) (hl : Hid (ψ.le φ)) (h2 : Hid (FfX ψ2 v2 y N2 D2)) (hl2 : Hid (ψ2.le φ)) (hB : Hid (N1 * N2 ≤ M ∧ D1 * D2 ≤ M ∧ N1 ≤ M ∧ N2 ≤ M)) {N D : Nat} (hN : Hid (N1 * N2 ≤ N ∧ D1 * D2 ≤ D)) (hS : Hid (P φ W)) :
    Calls Tryz.prog 78 #[v1, v2] W (FfS P φ (x * y) N D) :=
  (Times_any hD hM (hP.fz hS.out) (h1.out.mono hl.out) (h2.out.mono hl2.out) hB.out.1 hB.out.2.1 hB.out.2.2.1 hB.out.2.2.2).mono (fun en w' hp => FfS.of hP hN.out.1 hN.out.2 hS hp)
theorem Over_P (hP : Sta P) (hD : Hid (DivOk M)) (hM : LenB M) {v1 v2 : Value} {x y : Rat} {N1 D1 N2 D2 : Nat} {ψ ψ2 : Phi} (h1 : Hid (FfX ψ v1 x N1 D1)) (hl : Hid (ψ.le φ)) (h2 : Hid (FfX ψ2 v2 y N2 D2)) (hl2 : Hid (ψ2.le φ)) (hy : Hid (y ≠ 0)) (hB : Hid (N1 * D2 ≤ M ∧ D1 * N2 ≤ M ∧ D2 ≤ M)) {N D : Nat} (hN : Hid (N1 * D2 ≤ N ∧ D1 * N2 ≤ D)) (hS : Hid (P φ W)) :
    Calls Tryz.prog 77 #[v1, v2] W (FfS P φ (x / y) N D) :=
  (Over_any hD hM (hP.fz hS.out) (h1.out.mono hl.out) (h2.out.mono hl2.out) hy.out hB.out.1 hB.out.2.1 hB.out.2.2).mono (fun en w' hp => FfS.of hP hN.out.1 hN.out.2 hS hp)
theorem Compare_P (hP : Sta P) (hM : LenB M) {v1 v2 : Value} {x y : Rat} {N1 D1 N2 D2 : Nat} {ψ ψ2 : Phi} (h1 : Hid (FfX ψ v1 x N1 D1)) (hl : Hid (ψ.le φ)) (h2 : Hid (FfX ψ2 v2 y N2 D2)) (hl2 : Hid (ψ2.le φ)) (hB : Hid (N1 * D2 + N2 * D1 ≤ M ∧ D1 * D2 ≤ M)) {q : Int} (hq : Hid (cmpQ x y = q)) (hS : Hid (P φ W)) :
    Calls Tryz.prog 44 #[v1, v2] W (fun e w' => e = .returned (.int .i64 q) ∧ Hid (P φ w')) :=
  (Compare_any hM (hP.fz hS.out) (h1.out.mono hl.out) (h2.out.mono hl2.out) hB.out.1 hB.out.2 hq).mono (fun en w' hp => ⟨hp.1, Lib.hid (hP.callB hS.out hp.2)⟩)
theorem Sign_P (hP : Sta P) {v : Value} {x : Rat} {N D : Nat} {ψ : Phi} (h1 : Hid (FfX ψ v x N D)) (hl : Hid (ψ.le φ)) {q : Int} (hq : Hid (sgI x = q)) (hS : Hid (P φ W)) :
    Calls Tryz.prog 76 #[v] W (fun e w' => e = .returned (.int .i64 q) ∧ Hid (P φ w')) :=
  (Sign_any (hP.fz hS.out) (h1.out.mono hl.out) hq).mono (fun en w' hp => ⟨hp.1, Lib.hid (hP.callB hS.out hp.2)⟩)
theorem FracInt_P (hP : Sta P) {q n : Nat} (hq : Hid (q ≤ n ∧ n ≤ 3000)) (hS : Hid (P φ W)) :
    Calls Tryz.prog 89 #[.int .i64 (q : Int)] W (FfS P φ (((q : Nat) : Int) : Rat) n 1) :=
  (FracInt_any (n := (q : Int)) (by omega) (by have := hq.out; omega) (hP.fz hS.out)).mono (fun en w' hp => FfS.of hP (by have := hq.out; omega) (Nat.le_refl _) hS hp)
end
theorem Inv.sta (w0 : World) (φ0 : Phi) : Sta (fun φ W => Inv w0.heap.size w0 φ0 φ W) := ⟨fun h => h.fz, fun h hi => h.call hi⟩
theorem OwG.sta {α : Type} [Rep α] (w0 : World) (φ0 : Phi) (E : TypeId) (ao : Option Addr) (co : Nat) (out : List α) : Sta (fun φ W => OwG w0 φ0 φ E ao co out W) := ⟨fun h => h.inv.fz, fun h hi => h.call hi⟩
theorem OwR.sta {α : Type} [Rep α] (w0 : World) (φ0 : Phi) (E : TypeId) (ao : Option Addr) (co : Nat) (out : List α) : Sta (fun φ W => OwR w0 φ0 φ E ao co out W) := ⟨fun h => h.inv.fz, fun h hi => h.call hi⟩
end Go.Proofs.YtmlpjffnmkndoaaGreatDoor

namespace Go.Proofs.YtmlpjffnmkndoaaGreatDoor
open Go.RowKit
set_option linter.unusedVariables false
set_option linter.unusedSimpArgs false
/-- A total. -/
noncomputable def ttQ (T : List Rti) (c : Nat) : Rat := ratX (T.getD c rti0).1 (T.getD c rti0).2
open Classical in
/-- There is a cell that is empty, with a total that is not 0. -/
noncomputable def nobB (z : Nat → Prop) (T : List Rti) (n : Nat) : Bool := decide (∃ c, c < n ∧ z c ∧ ttQ T c ≠ 0)
section
variable {z z' : Nat → Prop} {T : List Rti} {n c : Nat}
open Classical in
theorem nobB_yes (h : c < n) (hz : z c) (ht : ttQ T c ≠ 0) : nobB z T n = true := by
  unfold nobB; exact decide_eq_true ⟨c, h, hz, ht⟩
open Classical in
theorem nobB_no (h : ∀ c, c < n → ¬ (z c ∧ ttQ T c ≠ 0)) : nobB z T n = false := by
  unfold nobB; exact decide_eq_false (fun ⟨c, hc, hz⟩ => h c hc hz)
open Classical in
theorem nobB_all (h : nobB z T n = false) : ∀ c, c < n → z c → ttQ T c = 0 := by
  unfold nobB at h
  have h1 := of_decide_eq_false h
  exact fun c hc hz => Classical.byContradiction (fun ht => h1 ⟨c, hc, hz, ht⟩)
open Classical in
theorem nobB_congr (h : ∀ c, c < n → (z c ↔ z' c)) : nobB z T n = nobB z' T n := by
  unfold nobB
  exact decide_eq_decide.2 ⟨fun ⟨c, hc, hz, ht⟩ => ⟨c, hc, (h c hc).1 hz, ht⟩, fun ⟨c, hc, hz, ht⟩ => ⟨c, hc, (h c hc).2 hz, ht⟩⟩
end
section
variable {w : Nat → Rat} {l : List Psn} {mi n : Nat} {c : Int}
theorem celQ_nn (h : ∀ j, j < n → 0 ≤ w j) : ∀ k, k ≤ n → 0 ≤ celQ w l mi c k := by
  intro k
  induction k with
  | zero => exact fun _ => Rat.le_refl
  | succ k ih =>
    intro hk
    have h1 := ih (by omega)
    have h2 := h k (by omega)
    by_cases e : celI l mi k = c
    · rw [celQ_yes e]; grind
    · rw [celQ_no e]; exact h1
theorem celQ_none : ∀ k, (∀ j, j < k → celI l mi j ≠ c) → celQ w l mi c k = 0 := by
  intro k
  induction k with
  | zero => exact fun _ => rfl
  | succ k ih => exact fun h => by rw [celQ_no (h k (by omega)), ih (fun j hj => h j (by omega))]
theorem celQ_ge (h : ∀ j, j < n → 0 ≤ w j) {j : Nat} (e : celI l mi j = c) : ∀ k, k ≤ n → j < k → w j ≤ celQ w l mi c k := by
  intro k
  induction k with
  | zero => exact fun _ hj => absurd hj (Nat.not_lt_zero j)
  | succ k ih =>
    intro hk hj
    have h1 := celQ_nn (l := l) (mi := mi) (c := c) h k (by omega)
    have h2 := h k (by omega)
    by_cases e2 : celI l mi k = c
    · rw [celQ_yes e2]
      by_cases e3 : j = k
      · subst e3; grind
      · have := ih (by omega) (by omega); grind
    · rw [celQ_no e2]
      exact ih (by omega) (by
        by_cases e3 : j = k
        · subst e3; exact absurd e e2
        · omega)
theorem celQ_pos (h : ∀ j, j < n → 0 < w j) {j : Nat} (hj : j < n) (e : celI l mi j = c) : celQ w l mi c n ≠ 0 := by
  have h1 := celQ_ge (l := l) (mi := mi) (fun j hj => Rat.le_of_lt (h j hj)) e n (Nat.le_refl _) hj
  have h2 := h j hj
  intro e2
  rw [e2] at h1
  grind
theorem celQ_zero (h : ∀ j, j < n → 0 < w j) : celQ w l mi c n = 0 ↔ ∀ j, j < n → celI l mi j ≠ c :=
  ⟨fun e j hj e2 => celQ_pos h hj e2 e, fun h2 => celQ_none n h2⟩
end
theorem ppmF_pos {m : List Mgn} {l : List Psn} {n : Nat} (hn : l.length = n) (h : ppmF m l = 0) : ∀ j, j < n → 0 < wgtQ l j := by
  subst hn
  obtain ⟨_, _, h3⟩ := ppmF_ok h
  exact fun j hj => (psmF_ok (h3 j hj)).2.1
theorem ppmF_tot {m : List Mgn} {l : List Psn} {nm : Nat} (hm : m.length = nm) (h : ppmF m l = 0) : ∀ i, i < nm → ∀ r ∈ (m.getD i mgn0).2, shoF r.1 r.2 = 0 ∧ 0 ≤ ratX r.1 r.2 := by
  subst hm
  obtain ⟨h1, _, _⟩ := ppmF_ok h
  obtain ⟨_, h5, _⟩ := mgsF_ok h1
  intro i hi r hr
  obtain ⟨k, hk, rfl⟩ := List.getElem_of_mem hr
  have := ttlF_ok ((ttsF_ok (mgnF_ok (h5 i hi)).2).2.2 k hk)
  rwa [getD_elem0 _ _ _ hk] at this
/-- A weight behind the fitting to a margin. -/
noncomputable def fitX (ch : Rat → Rat) (ws : List Rat) (l : List Psn) (mi : Nat) (T : List Rti) (n j : Nat) : Rat :=
  if celQ (fun j => ws.getD j 0) l mi (celI l mi j) n = 0 then ws.getD j 0 else ch (ws.getD j 0 * ttQ T (celI l mi j).toNat / celQ (fun j => ws.getD j 0) l mi (celI l mi j) n)
noncomputable def fitL (ch : Rat → Rat) (ws : List Rat) (l : List Psn) (mi : Nat) (T : List Rti) (n k : Nat) : List Rat := (List.range k).map (fitX ch ws l mi T n)
theorem fitL_succ {ch : Rat → Rat} {ws : List Rat} {l : List Psn} {mi : Nat} {T : List Rti} {n k : Nat} : fitL ch ws l mi T n (k + 1) = fitL ch ws l mi T n k ++ [fitX ch ws l mi T n k] := by
  unfold fitL; rw [List.range_succ, List.map_append]; rfl
theorem fitL_len {ch : Rat → Rat} {ws : List Rat} {l : List Psn} {mi : Nat} {T : List Rti} {n k : Nat} : (fitL ch ws l mi T n k).length = k := by simp [fitL]
/-- Post: the weights and the error. -/
noncomputable def pstR (m : List Mgn) (l : List Psn) (mi : Int) : List Rti × Int :=
  if ppmF m l ≠ 0 then ([], ppmF m l) else if outB mi 0 ((m.length : Int) - 1) = true then ([], 1)
  else if nobB (fun c => celQ (wgtQ l) l mi.toNat (c : Int) l.length = 0) (m.getD mi.toNat mgn0).2 (m.getD mi.toNat mgn0).2.length = true then ([], 19)
  else shtR (fitL id (wsL l l.length) l mi.toNat (m.getD mi.toNat mgn0).2 l.length l.length)
section
variable {m : List Mgn} {l : List Psn} {mi : Int} {i n nm : Nat}
theorem pstR_bad {f : Int} (h : ppmF m l = f) (hf : f ≠ 0) : pstR m l mi = ([], f) := by
  unfold pstR; rw [h, if_pos hf]
theorem pstR_out (h : ppmF m l = 0) (hm : m.length = nm) (ho : outB mi 0 ((nm : Int) - 1) = true) : pstR m l mi = ([], 1) := by
  subst hm
  unfold pstR; rw [h, if_neg (by simp), if_pos ho]
theorem pstR_nob (h : ppmF m l = 0) (hm : m.length = nm) (hn : l.length = n) (ho : outB (i : Int) 0 ((nm : Int) - 1) = false) {nt : Nat} (hnt : (m.getD i mgn0).2.length = nt) (hb : nobB (fun c => celQ (wgtQ l) l i (c : Int) n = 0) (m.getD i mgn0).2 nt = true) : pstR m l (i : Int) = ([], 19) := by
  subst hm hn hnt
  unfold pstR; rw [h, if_neg (by simp), if_neg (by rw [ho]; simp), Int.toNat_natCast, if_pos hb]
theorem pstR_ok (h : ppmF m l = 0) (hm : m.length = nm) (hn : l.length = n) (ho : outB (i : Int) 0 ((nm : Int) - 1) = false) {nt : Nat} (hnt : (m.getD i mgn0).2.length = nt) (hb : nobB (fun c => celQ (wgtQ l) l i (c : Int) n = 0) (m.getD i mgn0).2 nt = false) : pstR m l (i : Int) = shtR (fitL id (wsL l n) l i (m.getD i mgn0).2 n n) := by
  subst hm hn hnt
  unfold pstR; rw [h, if_neg (by simp), if_neg (by rw [ho]; simp), Int.toNat_natCast, if_neg (by rw [hb]; simp)]
theorem outB_in (ho : outB mi 0 ((nm : Int) - 1) = false) : ∃ i : Nat, mi = (i : Int) ∧ i < nm := by
  rw [outB, Bool.or_eq_false_iff, decide_eq_false_iff_not, decide_eq_false_iff_not] at ho
  exact ⟨mi.toNat, by omega, by omega⟩
end
end Go.Proofs.YtmlpjffnmkndoaaGreatDoor

namespace Go.Proofs.YtmlpjffnmkndoaaGreatDoor
open Go.RowKit
set_option linter.unusedVariables false
set_option linter.unusedSimpArgs false
theorem madeS_list (cs : Array Value) : ∀ n, (madeCells cs (n * cs.size)).toList = (List.replicate n cs.toList).flatten := by
  intro n
  induction n with
  | zero => simp [madeCells]
  | succ n ih =>
    rw [List.replicate_succ, List.flatten_cons, ← ih]
    apply List.ext_getElem
    · simp [size_madeCells, Nat.succ_mul, Nat.add_comm]
    · intro i h1 h2
      rw [List.getElem_append]
      split
      · next h =>
        have h' : i < cs.size := by simpa using h
        simp [madeCells, Nat.mod_eq_of_lt h', h']
      · next h =>
        have h' : cs.size ≤ i := by simpa using h
        simp only [madeCells, Array.getElem_toList, Array.getElem_map, Array.getElem_range, Array.length_toList]
        rw [Nat.mod_eq_sub_mod h']
theorem wpList_mkS {α : Type} [Rep α] {P : Program} {w : World} {ops : Array Oper} {rest : List Oper} {o : Oper} {act : Act} {Q : Exit → Act → World → Prop} (hgd : o.guard = none) (l c : Operand) (T : TypeId) (hop : o.op = Op.makeSlice T l c)
    {E : TypeId} {z : Value} {bytes : Nat} (st : SliceTy P T E z (Rep.size α) bytes) {B : Nat} {w0 : World} {φ0 φ : Phi} (hi : Inv B w0 φ0 φ w) (kl kc : IntKind) (n : Nat) (y : α) (hy : ∀ φ, Rep.rep φ y z.cells.toList)
    (hl : act.eval l = .int kl n) (hc : act.eval c = .int kc n) (hbound : bytes * n ≤ 281474976710656)
    (h : ∀ w', Inv B w0 φ0 φ w' → Own B φ w' E (some ⟨w.heap.size, 0, none⟩) n (List.replicate n y) → w.grownBy w' none → wpList P ops Q rest (act.put o.dst (.slice (some ⟨w.heap.size, 0, none⟩) n n)) w') : wpList P ops Q (o :: rest) act w := by
  obtain ⟨i, i1, i2, i3, i4⟩ := info_parts st.info
  have hb1 : n ≤ bytes * n := Nat.le_mul_of_pos_left _ st.bpos
  refine wpList_make_full w hgd l c T hop B E i z (Rep.size α) st.und i1 i2 i3 kl kc n n n hl hc rfl rfl (by rw [i4]; exact hbound) (by unfold maxLen; omega) hi.size ?_
  intro w' k1 k2
  have hi' : Inv B w0 φ0 φ w' := ⟨hi.bel.grown k2 hi.size (fun k e => by cases e), hi.base, fun b o hb => (k2.block b (hi.fz.mlt hb) (by simp)).trans (hi.fz b o hb), hi.le, hi.new⟩
  refine h w' hi' ⟨⟨_, by rw [List.length_replicate]; exact k1, ?_⟩, fun y2 hy => ?_⟩ k2
  · rw [show Rep.size α = z.cells.size from st.zs.symm, madeS_list]
    exact RepL.replicate (hy φ) n
  · injection hy with hy
    subst hy
    cases hφ : φ w.heap.size with
    | none => rfl
    | some ob => have := hi.fz.mlt hφ; omega
theorem slBo : SliceTy Tryz.prog 108 4 (.bool false) (Rep.size Bool) 1 := ⟨Tryz.underlying108, by kernel_rfl, rfl, by decide, by decide⟩
set_option maxRecDepth 100000 in
set_option maxHeartbeats 2000000 in
theorem empty_any {M : Nat} (hD : Hid (DivOk M)) (hM2 : p10 2000 ≤ M) {m : List Mgn} {nm cm mi nt : Nat} {a0 : Option Addr} {al : Option Addr} {cl : Nat} {l : List Psn} {n : Nat} {w : World} {φ : Phi} (hφ : Fz φ w) (sm : SlV φ a0 cm m) (hnm : Hid (m.length = nm)) (hmn : mi < nm) (hnt9 : Hid ((m.getD mi mgn0).2.length = nt)) (hT : Hid (∀ r ∈ (m.getD mi mgn0).2, RtiG r ∧ shoF r.1 r.2 = 0)) (sl : SlV φ al cl l) (hn : Hid (l.length = n)) (hn3 : n ≤ 3000) (hnt : nt ≤ 40) (hmi : mi ≤ 8) (hc : Hid (∀ j, j < n → mi < (l.getD j psn0).2.1.length ∧ ∃ c : Nat, c < nt ∧ celI l mi j = (c : Int))) {b : Bool} (hb : Hid (nobB (fun c => ∀ j, j < n → celI l mi j ≠ (c : Int)) (m.getD mi mgn0).2 nt = b)) :
    Calls Tryz.prog 30 #[.slice a0 nm cm, .slice al n cl, .int .i64 (mi : Int)] w (fun e w' => e = .returned (.bool b) ∧ Below w.heap.size w w') := by
  have HM2 := Lib.hid hM2
  have HSL := Lib.hid sl
  obtain ⟨bm, om, rfl, fm⟩ := sm.mgnsD hnm hmn
  obtain ⟨ar, cr, sr, f1⟩ := fm mi hmn
  have d1 := (f1 w hφ).2
  rw [hnt9.out] at d1
  have F1 := Lib.hid (fun W (hf : Fz φ W) => (f1 W hf).2)
  rw [hnt9.out] at F1
  obtain ⟨T, hTT⟩ : ∃ T, (m.getD mi mgn0).2 = T := ⟨_, rfl⟩
  rw [hTT] at hnt9 hT hb sr
  have SR := Lib.hid sr
  have hmni : (mi : Int) < (nm : Int) := by omega
  have hnml : nm ≤ 9223372036854775807 := by have := sm.capn; have := sm.capm; rw [hnm.out] at *; unfold maxLen at *; omega
  have em := makeB_eq nt (by omega)
  have HI0 := Lib.hid (Inv.start hφ)
  have hcrl : nt ≤ 9223372036854775807 := by omega
  clear hφ sl sm hM2 fm f1 hTT sr
  go_enter Tryz.func30, Tryz.ntmps30
  go_upto_region 2 with fail
  have hS0 : Hid (OwG w φ φ 4 (some ⟨w.heap.size, 0, none⟩) nt (List.replicate nt false) (w.alloc (.cells (madeCells #[.bool false] nt) 4))) := Lib.hid ⟨HI0.out.alloc _, Own.madeB HI0.out _ nt (by unfold maxLen; omega)⟩
  generalize w.alloc (.cells (madeCells #[.bool false] nt) 4) = wx at *
  obtain ⟨gh, hgh⟩ : ∃ b, w.heap.size = b := ⟨_, rfl⟩
  rw [hgh] at hS0 ⊢
  have HGH := Lib.hid hgh
  clear hgh em d1
  go_wp2
  go_loopw [21] (fun iv wr => ∃ (k : Nat) (L : List Bool) (φ' : Phi), k ≤ n ∧ iv = .int .i64 (k : Int) ∧ Hid (φ.le φ') ∧ Hid (L.length = nt) ∧ Hid (∀ c, c < nt → (L.getD c false = true ↔ ∃ j, j < k ∧ celI l mi j = (c : Int))) ∧ Hid (OwG w φ φ' 4 (some ⟨gh, 0, none⟩) nt L wr)) (fun iv _ => n - (intOf iv).toNat)
  case atStart => exact ⟨0, List.replicate nt false, φ, Nat.zero_le _, rfl, Lib.hid φ.le_refl, Lib.hid (by simp), Lib.hid (fun c hc => by
    constructor
    · intro h; simp [List.getD_eq_getElem?_getD, hc] at h
    · rintro ⟨j, hj, _⟩; omega), hS0⟩
  case round =>
    clear hS0
    obtain ⟨j, L, φ'', hj, rfl, hle, hLl, hL, hS⟩ := hrel
    by_cases hjl : j < n
    · have hjli : (j : Int) < (n : Int) := by omega
      obtain ⟨b, off, rfl, fp⟩ := HSL.out.psnsD hn hjl
      obtain ⟨ac, cc, sc, f2⟩ := fp j hjl
      obtain ⟨d0, d1, d2, d3, d4, d5⟩ := f2 wr (hS.out.inv.fz.sub hS.out.inv.le)
      obtain ⟨hml', ct, hct, hce⟩ := hc.out j hjl
      have hce2 : Hid (celI l mi j = (ct : Int)) := Lib.hid hce
      unfold celI at hce
      generalize l.getD j psn0 = p at *
      obtain ⟨⟨s, t⟩, cs, x, y, z⟩ := p
      dsimp only at d0 d1 d2 d3 d4 d5 sc hce hml'
      obtain ⟨mc, hmc⟩ : ∃ m, cs.length = m := ⟨_, rfl⟩
      rw [hmc] at d2 hml'
      have hcn := Lib.hid hmc
      have hmcc : mc ≤ 9223372036854775807 := by have h1 := sc.capn; have h2 := sc.capm; rw [hmc] at h1; unfold maxLen at h2; omega
      obtain ⟨bc, oc, rfl, fc⟩ := sc.intsD hcn hml'
      have FC := Lib.hid (fc mi hml')
      rw [hce] at FC
      obtain ⟨φp, lp, ip, ep⟩ := (Inv.start hS.out.inv.fz).frz (.cells #[.string s, .string t, .slice (some ⟨bc, oc, none⟩) mc cc, .int .i64 x, .int .i64 y, .int .i64 z] 76)
      have hS1 := Lib.hid (hS.out.call ip)
      have LP := Lib.hid (hle.out.trans lp)
      have EP := Lib.hid ep
      have hmii : (mi : Int) < (mc : Int) := by omega
      have hcti : (ct : Int) < (nt : Int) := by omega
      have d9 : (wr.alloc (.cells #[.string s, .string t, .slice (some ⟨bc, oc, none⟩) mc cc, .int .i64 x, .int .i64 y, .int .i64 z] 76)).cell? ⟨bc, oc + mi, none⟩ = some (.int .i64 (ct : Int)) := (FC.out _ (hS1.out.inv.fz.sub hS1.out.inv.le)).2
      clear fp f2 hmc fc ip ep lp hS hce hle
      go_upto_region 5 with fail
      generalize wr.alloc (.cells #[.string s, .string t, .slice (some ⟨bc, oc, none⟩) mc cc, .int .i64 x, .int .i64 y, .int .i64 z] 76) = wz at *
      generalize wr.heap.size = b5 at *
      clear d0 d1 d2 d3 d4 d5
      have x2 : wz.cell? ⟨b5, 2, none⟩ = some (.slice (some ⟨bc, oc, none⟩) mc cc) := box_cell EP.out φp.le_refl hS1.out.inv.fz 2
      obtain ⟨gh', hgh', _, hmk⟩ := hS1.out.own.markD hLl hct
      cases hgh'
      obtain ⟨m1, m2, m3⟩ := hmk ct hct
      have hN := m3 true w φ hS1.out.inv
      have HN : Hid (OwG w φ φp 4 (some ⟨gh, 0, none⟩) nt (L.set ct true) (wz.setCell ⟨gh, ct, none⟩ (.bool true))) := Lib.hid ⟨hN.2, hN.1⟩
      have hLn : Hid (∀ c, c < nt → ((L.set ct true).getD c false = true ↔ ∃ j', j' < j + 1 ∧ celI l mi j' = (c : Int))) := Lib.hid (fun c hc => by
        rw [getD_set L ct c (by rw [hLl.out]; exact hct)]
        by_cases e : c = ct
        · subst e
          rw [if_pos rfl]
          exact ⟨fun _ => ⟨j, by omega, hce2.out⟩, fun _ => rfl⟩
        · rw [if_neg e, hL.out c hc]
          constructor
          · rintro ⟨i, hi, h⟩; exact ⟨i, by omega, h⟩
          · rintro ⟨i, hi, h⟩
            by_cases e2 : i = j
            · subst e2; rw [hce2.out] at h; exact absurd (by omega) e
            · exact ⟨i, by omega, h⟩)
      clear hN hmk m3
      go_wp2
      go_roundw
      case rel => exact ⟨j + 1, L.set ct true, φp, by omega, by go_num, LP, Lib.hid (by rw [List.length_set, hLl.out]), hLn, HN⟩
      case measure => (simp [intOf] <;> omega)
    · obtain rfl : j = n := by omega
      have d1 := F1.out wr (hS.out.inv.fz.sub hS.out.inv.le)
      go_wp2
      go_loopw [39] (fun iv wr => ∃ (k : Nat) (φ3 : Phi), k ≤ nt ∧ iv = .int .i64 (k : Int) ∧ Hid (∀ c, c < k → ¬ ((∀ j', j' < j → celI l mi j' ≠ (c : Int)) ∧ ttQ T c ≠ 0)) ∧ Hid (OwG w φ φ3 4 (some ⟨gh, 0, none⟩) nt L wr)) (fun iv _ => nt - (intOf iv).toNat)
      case atStart => exact ⟨0, φ'', Nat.zero_le _, rfl, Lib.hid (fun c hc => absurd hc (Nat.not_lt_zero c)), hS⟩
      case round =>
        clear hS d1
        obtain ⟨k, φ3, hk, rfl, hok, hS⟩ := hrel
        by_cases hlt : k < nt
        · have hlti : (k : Int) < (nt : Int) := by omega
          obtain ⟨bt, ot, hbt, ft⟩ := SR.out.rtisD hnt9 hlt
          obtain ⟨e0, e1⟩ := ft k hlt wr (hS.out.inv.fz.sub hS.out.inv.le)
          have hm : T.getD k rti0 ∈ T := by rw [getD_elem0 _ _ _ (by rw [hnt9.out]; exact hlt)]; exact List.getElem_mem _
          obtain ⟨hg1, hg2⟩ := hT.out _ hm
          have htq : Hid (ttQ T k = ratX (T.getD k rti0).1 (T.getD k rti0).2) := Lib.hid rfl
          generalize T.getD k rti0 = p at *
          obtain ⟨s, t⟩ := p
          dsimp only at e0 e1 hg2 htq
          have hsz : Hid (s.size ≤ 9223372036854775807 ∧ t.size ≤ 9223372036854775807) := Lib.hid hg1
          have hrf := Lib.hid (shoF_ok hg2).1
          have hbd := Lib.hid (sho_lt hg2)
          have hx : Hid (ratX s t = ttQ T k) := Lib.hid htq.out.symm
          obtain ⟨φp, lp, ip, ep⟩ := (Inv.start hS.out.inv.fz).frz (.cells #[.string s, .string t] 32)
          have hS1 := Lib.hid (hS.out.call ip)
          have EP := Lib.hid ep
          cases hbt
          clear ft hm hg1 hg2 ip ep lp hS htq
          go_upto_region 10 with fail
          generalize wr.alloc (.cells #[.string s, .string t] 32) = wz at *
          generalize wr.heap.size = b5 at *
          clear e0 e1
          obtain ⟨gh', hgh', _, hmk⟩ := hS1.out.own.markD hLl hlt
          cases hgh'
          obtain ⟨m1, m2, _⟩ := hmk k hlt
          have x0 : wz.cell? ⟨b5, 0, none⟩ = some (.string s) := box_cell EP.out φp.le_refl hS1.out.inv.fz 0
          have x1 : wz.cell? ⟨b5, 1, none⟩ = some (.string t) := box_cell EP.out φp.le_refl hS1.out.inv.fz 1
          obtain ⟨g, hg⟩ : ∃ g, L.getD k false = g := ⟨_, rfl⟩
          rw [hg] at m1
          have hLk := Lib.hid (hL.out k hlt)
          rw [hg] at hLk
          clear hmk
          cases g
          · have hno : Hid (∀ j', j' < j → celI l mi j' ≠ (k : Int)) := Lib.hid (fun j' hj' e => by
              have := hLk.out.2 ⟨j', hj', e⟩
              exact absurd this (by decide))
            obtain ⟨q, hq⟩ : ∃ q, Hid (sgI (ttQ T k) = q) := ⟨_, Lib.hid rfl⟩
            have hqz : q = 0 ↔ ttQ T k = 0 := by
              rw [← hq.out]
              unfold sgI
              by_cases h1 : ttQ T k = 0
              · rw [if_pos h1]; exact ⟨fun _ => h1, fun _ => rfl⟩
              · rw [if_neg h1]
                split
                · exact ⟨fun h => absurd h (by decide), fun h => absurd h h1⟩
                · exact ⟨fun h => absurd h (by decide), fun h => absurd h h1⟩
            by_cases hq0 : q = 0
            · have hok2 : Hid (∀ c, c < k + 1 → ¬ ((∀ j', j' < j → celI l mi j' ≠ (c : Int)) ∧ ttQ T c ≠ 0)) := Lib.hid (fun c hc => by
                by_cases e : c = k
                · subst e; exact fun h => h.2 (hqz.1 hq0)
                · exact hok.out c (by omega))
              have hqi : ((q : Int) == 0) = true := by simp [hq0]
              have hqj : ((q : Int) != 0) = false := by simp [hq0]
              clear hqz hq0
              go_wp2_with (first
                | (go_at_call 42; (with_reducible refine (FracOf_P (OwG.sta _ _ _ _ _ _) hD HM2.out hsz hrf hx hbd hS1).mono ?_); rintro e w2 ⟨g2, a1, k1, c1, a2, k2, c2, φ2, rfl, S2, L2, V2⟩)
                | (go_at_call 76; (with_reducible refine (Sign_P (OwG.sta _ _ _ _ _ _) V2 (Lib.hid φ2.le_refl) hq S2).mono ?_); rintro e w4 ⟨rfl, S4⟩)
                | fail)
              go_roundw
              case rel => exact ⟨k + 1, φ2, by omega, by go_num, hok2, S4⟩
              case measure => (simp [intOf] <;> omega)
            · have HB : Hid (b = true) := Lib.hid (by rw [← hb.out]; exact nobB_yes hlt hno.out (fun h => hq0 (hqz.2 h)))
              have hqi : ((q : Int) == 0) = false := by simp [hq0]
              have hqj : ((q : Int) != 0) = true := by simp [hq0]
              clear hqz hq0
              go_wp2_with (first
                | (go_at_call 42; (with_reducible refine (FracOf_P (OwG.sta _ _ _ _ _ _) hD HM2.out hsz hrf hx hbd hS1).mono ?_); rintro e w2 ⟨g2, a1, k1, c1, a2, k2, c2, φ2, rfl, S2, L2, V2⟩)
                | (go_at_call 76; (with_reducible refine (Sign_P (OwG.sta _ _ _ _ _ _) V2 (Lib.hid φ2.le_refl) hq S2).mono ?_); rintro e w4 ⟨rfl, S4⟩)
                | fail)
              go_ret
              exact ⟨ret_bool HB.out.symm, HGH.out ▸ S4.out.inv.bel⟩
          · have hok2 : Hid (∀ c, c < k + 1 → ¬ ((∀ j', j' < j → celI l mi j' ≠ (c : Int)) ∧ ttQ T c ≠ 0)) := Lib.hid (fun c hc => by
              by_cases e : c = k
              · subst e
                obtain ⟨j', hj', h⟩ := hLk.out.1 rfl
                exact fun hh => hh.1 j' hj' h
              · exact hok.out c (by omega))
            go_wp2
            go_roundw
            case rel => exact ⟨k + 1, φp, by omega, by go_num, hok2, hS1⟩
            case measure => (simp [intOf] <;> omega)
        · obtain rfl : k = nt := by omega
          have HB : Hid (b = false) := Lib.hid (by rw [← hb.out]; exact nobB_no hok.out)
          go_wp2
          go_ret
          exact ⟨ret_bool HB.out.symm, HGH.out ▸ hS.out.inv.bel⟩
end Go.Proofs.YtmlpjffnmkndoaaGreatDoor

namespace Go.Proofs.YtmlpjffnmkndoaaGreatDoor
open Go.RowKit
set_option linter.unusedVariables false
set_option linter.unusedSimpArgs false
theorem SlV.rawD {φ : Phi} {a : Option Addr} {cap : Nat} {xs : List Raw3} (h : SlV φ a cap xs) {n : Nat} (hn : Hid (xs.length = n)) {k : Nat} (hk : k < n) :
    ∃ b off, a = some ⟨b, off, none⟩ ∧ ∀ k, k < n → ∀ w, Fz φ w → w.cell? ⟨b, off + k * 3, none⟩ = some (.bool (xs.getD k raw0).g) ∧ w.cell? ⟨b, off + k * 3 + 1, none⟩ = some (.slice (xs.getD k raw0).a1 (xs.getD k raw0).k1 (xs.getD k raw0).c1) ∧ w.cell? ⟨b, off + k * 3 + 2, none⟩ = some (.slice (xs.getD k raw0).a2 (xs.getD k raw0).k2 (xs.getD k raw0).c2) := by
  obtain ⟨b, off, ha, hc⟩ := h.cellsD raw0 hn hk
  refine ⟨b, off, ha, fun k hk w hw => ?_⟩
  obtain ⟨cs, hr, hj⟩ := hc k hk
  have hr : cs = [.bool (xs.getD k raw0).g, .slice (xs.getD k raw0).a1 (xs.getD k raw0).k1 (xs.getD k raw0).c1, .slice (xs.getD k raw0).a2 (xs.getD k raw0).k2 (xs.getD k raw0).c2] := hr
  subst hr
  have j0 := hj 0 (by simp)
  have j1 := hj 1 (by simp)
  have j2 := hj 2 (by simp)
  simp [Rep.size] at j0 j1 j2
  exact ⟨hw.cell j0, hw.cell j1, hw.cell j2⟩
theorem slRaw : SliceTy Tryz.prog 62 70 (.agg #[.bool false, .slice none 0 0, .slice none 0 0]) (Rep.size Raw3) 56 := ⟨Tryz.underlying62, by kernel_rfl, rfl, (show 0 < 3 by decide), by decide⟩
/-- The bounds that fitting wants. -/
structure FtB (M N D n N0 : Nat) : Prop where
  c1 : n * N * D ^ n ≤ M
  c2 : D ^ n ≤ M
  c3 : N0 * D ^ n ≤ M
  c4 : N0 * (n * N * D ^ n) ≤ M
  c5 : N * (N0 * D ^ n) ≤ M
  c6 : D * (N0 * (n * N * D ^ n)) ≤ M
  c7 : N ≤ M
  c8 : N * N0 ≤ M
  c9 : D * N0 ≤ M
  c10 : N0 ≤ M
set_option maxHeartbeats 1000000 in
theorem postid_any {v : Value} {x : Rat} {N D : Nat} {w : World} {φ : Phi} (hφ : Fz φ w) (hv : FfX φ v x N D) :
    Calls Tryz.prog 34 #[v] w (FfXP x N D φ w) := by
  obtain ⟨g1, n1, d1, p1, p2, a1, c1, a2, c2, rfl, _⟩ := hv.open
  obtain ⟨φ1, hle1, hi1, hb1⟩ := (Inv.start hφ).frz (.cells #[.bool g1, .slice a1 p1 c1, .slice a2 p2 c2] 70)
  have hR := RsSt.start hi1 #[.bool false, .slice none 0 0, .slice none 0 0] 70
  rw [alloc_sz] at hR
  have HR := Lib.hid hR
  have HV := Lib.hid (hv.mono hle1)
  clear hφ hv hle1 hi1 hb1 hR
  go_enter Tryz.func34, Tryz.ntmps34
  go_upto_region 1 with fail
  obtain ⟨bb, hbb⟩ : ∃ b, w.heap.size = b := ⟨_, rfl⟩
  have HBB := Lib.hid hbb
  have hbx : Blk ((w.alloc (.cells #[.bool g1, .slice a1 p1 c1, .slice a2 p2 c2] 70)).alloc (.cells #[.bool false, .slice none 0 0, .slice none 0 0] 70)) w.heap.size #[.bool g1, .slice a1 p1 c1, .slice a2 p2 c2] 70 := (Blk.new w _ _).alloc _
  generalize (w.alloc (.cells #[.bool g1, .slice a1 p1 c1, .slice a2 p2 c2] 70)).alloc (.cells #[.bool false, .slice none 0 0, .slice none 0 0] 70) = wx at *
  rw [hbb] at hbx HR ⊢
  clear hbb
  have x0 : wx.cell? ⟨bb, 0, none⟩ = some (.bool g1) := hbx.cell 0
  have x1 : wx.cell? ⟨bb, 1, none⟩ = some (.slice a1 p1 c1) := hbx.cell 1
  have x2 : wx.cell? ⟨bb, 2, none⟩ = some (.slice a2 p2 c2) := hbx.cell 2
  obtain ⟨y0, y1, y2, y3, y4, y5⟩ := HR.out.facts
  clear hbx
  go_wp2
  have hIZ := Lib.hid (((HR.out.inv.setCell HR.out.l HR.out.f (off := 0) (Value.bool g1)).setCell HR.out.l HR.out.f (off := 1) (Value.slice a1 p1 c1)).setCell HR.out.l HR.out.f (off := 2) (Value.slice a2 p2 c2))
  have hBZ := Lib.hid (((HR.out.k.set 0 (Value.bool g1)).set 1 (Value.slice a1 p1 c1)).set 2 (Value.slice a2 p2 c2))
  have e0 : _ = some (Value.bool g1) := hBZ.out.cell 0
  have e1 : _ = some (Value.slice a1 p1 c1) := hBZ.out.cell 1
  have e2 : _ = some (Value.slice a2 p2 c2) := hBZ.out.cell 2
  (try simp only [Exit.inBlock, Exit.then])
  refine bodyPost_ret (v := .agg #[(Value.bool g1), (Value.slice a1 p1 c1), (Value.slice a2 p2 c2)]) (by simp [results, Tryz.results34, go_sem, e0, e1, e2]) rfl ?_
  exact ⟨_, φ1, rfl, hIZ.out, HV.out⟩
theorem postid_P {P : Phi → World → Prop} (hP : Sta P) {v : Value} {x : Rat} {N D : Nat} {φ ψ : Phi} {W : World} (hS : Hid (P φ W)) (h1 : Hid (FfX ψ v x N D)) (hl : Hid (ψ.le φ)) :
    Calls Tryz.prog 34 #[v] W (FfS P φ x N D) :=
  (postid_any (hP.fz hS.out) (h1.out.mono hl.out)).mono (fun en w' hp => FfS.of hP (Nat.le_refl _) (Nat.le_refl _) hS hp)
theorem sgI_z {x : Rat} : sgI x = 0 ↔ x = 0 := by
  unfold sgI
  by_cases h1 : x = 0
  · rw [if_pos h1]; exact ⟨fun _ => h1, fun _ => rfl⟩
  · rw [if_neg h1]
    split
    · exact ⟨fun h => absurd h (by decide), fun h => absurd h h1⟩
    · exact ⟨fun h => absurd h (by decide), fun h => absurd h h1⟩
set_option maxRecDepth 100000 in
set_option maxHeartbeats 4000000 in
theorem fitted_post {M : Nat} (hD : Hid (DivOk M)) (hM : LenB M) (hM2 : p10 2000 ≤ M) {N D N2 D2 N0 : Nat} (hN0 : Hid (N0 = 1000000000000)) (hD1 : 1 ≤ D) {n : Nat} (hB : Hid (FtB M N D n N0)) (hB2 : Hid (0 < n → N ≤ N2 ∧ D ≤ D2)) {ch : Rat → Rat} {m : List Mgn} {nm cm mi nt : Nat} {a0 : Option Addr} {al : Option Addr} {cl : Nat} {l : List Psn} {aw : Option Addr} {cw : Nat} {ws : List Rat} {w : World} {φ : Phi} (hφ : Fz φ w) (sm : SlV φ a0 cm m) (hnm : Hid (m.length = nm)) (hmn : mi < nm) (hnt9 : Hid ((m.getD mi mgn0).2.length = nt)) (hT : Hid (∀ r ∈ (m.getD mi mgn0).2, RtiG r ∧ shoF r.1 r.2 = 0)) (sl : SlV φ al cl l) (hn : Hid (l.length = n)) (sw : SlV φ aw cw (ws.map (Fx.mk (N := N) (D := D)))) (hw : Hid (ws.length = n)) (hn3 : n ≤ 3000) (hnt : nt ≤ 40) (hmi : mi ≤ 8) (hc : Hid (∀ j, j < n → mi < (l.getD j psn0).2.1.length ∧ ∃ c : Nat, c < nt ∧ celI l mi j = (c : Int)))
    (hch : Hid (∀ (P : Phi → World → Prop) (ψ1 ψ : Phi) (W : World) (v : Value) (x : Rat), Sta P → Hid (φ.le ψ) → Hid (P ψ W) → Hid (FfX ψ1 v x (N * (N0 * D ^ n)) (D * (N0 * (n * N * D ^ n)))) → Hid (ψ1.le ψ) → Calls Tryz.prog 34 #[v] W (FfS P ψ (ch x) N2 D2))) :
    Calls Tryz.prog 32 #[.slice a0 nm cm, .slice al n cl, .slice aw n cw, .int .i64 (mi : Int), .func (.func 34) #[] #[]] w (SlPost1 ((fitL ch ws l mi (m.getD mi mgn0).2 n n).map (Fx.mk (N := N2) (D := D2))) φ w) := by
  have HM2 := Lib.hid hM2
  have HSL := Lib.hid sl
  have HSW := Lib.hid sw
  have HCS := Lib.hid (cellSums_any hD hM hD1 hB.out.c1 hB.out.c2 hφ sm hnm hmn hnt9 sl hn sw hw hn3 hnt hmi hc)
  obtain ⟨bm, om, rfl, fm⟩ := sm.mgnsD hnm hmn
  obtain ⟨ar, cr, sr, f1⟩ := fm mi hmn
  have F1 := Lib.hid (fun W (hf : Fz φ W) => (f1 W hf).2)
  rw [hnt9.out] at F1
  obtain ⟨T, hTT⟩ : ∃ T, (m.getD mi mgn0).2 = T := ⟨_, rfl⟩
  rw [hTT] at hnt9 hT sr ⊢
  have SR := Lib.hid sr
  have hwm : Hid ((ws.map (Fx.mk (N := N) (D := D))).length = n) := Lib.hid (by rw [List.length_map, hw.out])
  have hmni : (mi : Int) < (nm : Int) := by omega
  have hnml : nm ≤ 9223372036854775807 := by have := sm.capn; have := sm.capm; rw [hnm.out] at *; unfold maxLen at *; omega
  have HI0 := Lib.hid (Inv.start hφ)
  have hcrl : nt ≤ 9223372036854775807 := by omega
  obtain ⟨h1, h2, h3, h4, h5, h6, h7, h8, h9, h10⟩ := hB.out
  obtain ⟨NB, hNB⟩ : ∃ x, n * N * D ^ n = x := ⟨_, rfl⟩
  obtain ⟨DB, hDB⟩ : ∃ x, D ^ n = x := ⟨_, rfl⟩
  rw [hNB] at HCS hch h1 h4 h6
  rw [hDB] at HCS hch h2 h3 h5
  have HBO := Lib.hid (And.intro h3 (And.intro h4 h2))
  have HBT := Lib.hid (And.intro h5 (And.intro h6 (And.intro h7 h3)))
  have hle0 := Lib.hid φ.le_refl
  have hsl : Hid (((celR ws l mi nt n).map (Fx.mk (N := NB) (D := DB))).length = nt) := Lib.hid (by simp [celR])
  have hrefl : Hid (N * (N0 * DB) ≤ N * (N0 * DB) ∧ D * (N0 * NB) ≤ D * (N0 * NB)) := Lib.hid ⟨Nat.le_refl _, Nat.le_refl _⟩
  have hrefo : Hid (N0 * DB ≤ N0 * DB ∧ N0 * NB ≤ N0 * NB) := Lib.hid ⟨Nat.le_refl _, Nat.le_refl _⟩
  have hS_ := Lib.hid (fun c (h : c < nt) => (celR_get (ws := ws) (l := l) (mi := mi) (k := n) h))
  clear hφ sl sm sw hM2 fm f1 hTT sr h1 h2 h3 h4 h5 h6 h7 h8 h9 h10 hB hNB hDB
  go_enter Tryz.func32, Tryz.ntmps32
  go_upto_region 2 with (go_at_call 53; (with_reducible refine HCS.out.mono ?_); rintro e w1 ⟨a1, c1, φ1, rfl, hi1, s1⟩; rw [hsl.out]; have I1 := Lib.hid (HI0.out.call hi1); have S1 := Lib.hid s1; have L1 := Lib.hid hi1.le; clear hi1 s1)
  go_upto_region 3 with (at_make; (refine wpList_mkS (α := Raw3) rfl _ _ 62 rfl slRaw I1.out _ _ nt raw0 (fun _ => rfl) rfl rfl (by omega) ?_; intro w2 hi2 ho2 hg2))
  have hS0 : Hid (OwG w φ φ1 70 (some ⟨w1.heap.size, 0, none⟩) nt (List.replicate nt raw0) w2) := Lib.hid ⟨hi2, ho2⟩
  generalize w1.heap.size = gf at *
  clear hi2 ho2 hg2 I1
  go_wp2
  go_loopw [29] (fun iv wr => ∃ (k : Nat) (rs : List Raw3) (φ' : Phi), k ≤ nt ∧ iv = .int .i64 (k : Int) ∧ Hid (φ1.le φ') ∧ Hid (rs.length = nt) ∧ Hid (∀ c, c < k → celQ (fun j => ws.getD j 0) l mi (c : Int) n ≠ 0 → FfX φ' (rs.getD c raw0).v (ttQ T c / celQ (fun j => ws.getD j 0) l mi (c : Int) n) (N0 * DB) (N0 * NB)) ∧ Hid (OwG w φ φ' 70 (some ⟨gf, 0, none⟩) nt rs wr)) (fun iv _ => nt - (intOf iv).toNat)
  case atStart => exact ⟨0, List.replicate nt raw0, φ1, Nat.zero_le _, rfl, Lib.hid φ1.le_refl, Lib.hid (by simp), Lib.hid (fun c hc => absurd hc (Nat.not_lt_zero c)), hS0⟩
  case round =>
    clear hS0
    obtain ⟨k, rs, φ', hk, rfl, hle, hrl, hR, hS⟩ := hrel
    by_cases hlt : k < nt
    · have hlti : (k : Int) < (nt : Int) := by omega
      obtain ⟨bs, os_, rfl, fs⟩ := S1.out.fxD hsl hlt
      obtain ⟨g6, a6, k6, c6, a7, k7, c7, hx, f6⟩ := fs k hlt
      rw [fx_getD, hS_.out k hlt] at hx
      obtain ⟨e0, e1, e2⟩ := f6 wr (hS.out.inv.fz.sub hle.out)
      obtain ⟨sk, hsk⟩ : ∃ s, Hid (celQ (fun j => ws.getD j 0) l mi (k : Int) n = s) := ⟨_, Lib.hid rfl⟩
      rw [hsk.out] at hx
      obtain ⟨φp, lp, ip, ep⟩ := (Inv.start hS.out.inv.fz).frz (.cells #[.bool g6, .slice a6 k6 c6, .slice a7 k7 c7] 70)
      have hS1 := Lib.hid (hS.out.call ip)
      have LP := Lib.hid (hle.out.trans lp)
      have LQ := Lib.hid lp
      have EP := Lib.hid ep
      have HX := Lib.hid ((hx.mono hle.out).mono lp)
      obtain ⟨bt, ot, rfl, ft⟩ := SR.out.rtisD hnt9 hlt
      have FT := Lib.hid (ft k hlt)
      have hm : T.getD k rti0 ∈ T := by rw [getD_elem0 _ _ _ (by rw [hnt9.out]; exact hlt)]; exact List.getElem_mem _
      obtain ⟨hg1, hg2⟩ := hT.out _ hm
      have htq : ttQ T k = ratX (T.getD k rti0).1 (T.getD k rti0).2 := rfl
      generalize T.getD k rti0 = p at *
      obtain ⟨s, t⟩ := p
      dsimp only at hg2 htq FT
      have hsz : Hid (s.size ≤ 9223372036854775807 ∧ t.size ≤ 9223372036854775807) := Lib.hid hg1
      have hrf := Lib.hid (shoF_ok hg2).1
      have hbd : Hid (dV (bodyB s).data.toList ≤ N0 ∧ dV t.data.toList ≤ N0) := Lib.hid (by rw [hN0.out]; exact sho_lt hg2)
      have hxt : Hid (ratX s t = ttQ T k) := Lib.hid htq.symm
      have hRm : Hid (∀ ψ : Phi, φp.le ψ → ∀ y : Raw3, (sk ≠ 0 → FfX ψ y.v (ttQ T k / sk) (N0 * DB) (N0 * NB)) → ∀ c, c < k + 1 → celQ (fun j => ws.getD j 0) l mi (c : Int) n ≠ 0 → FfX ψ ((rs.set k y).getD c raw0).v (ttQ T c / celQ (fun j => ws.getD j 0) l mi (c : Int) n) (N0 * DB) (N0 * NB)) := Lib.hid (fun ψ hl y hy c hc hne => by
        by_cases e : c = k
        · subst e
          rw [raw_setS (by rw [hrl.out]; exact hlt), hsk.out]
          exact hy (by rw [← hsk.out]; exact hne)
        · rw [raw_setN e]
          exact ((hR.out c (by omega) hne).mono LQ.out).mono hl)
      have hRz : Hid (sk = 0 → ∀ c, c < k + 1 → celQ (fun j => ws.getD j 0) l mi (c : Int) n ≠ 0 → FfX φp (rs.getD c raw0).v (ttQ T c / celQ (fun j => ws.getD j 0) l mi (c : Int) n) (N0 * DB) (N0 * NB)) := Lib.hid (fun hz c hc hne => by
        by_cases e : c = k
        · subst e; exact absurd (hsk.out.trans hz) hne
        · exact (hR.out c (by omega) hne).mono LQ.out)
      clear fs f6 hx ip ep lp hS hle ft hm hg1 hg2 htq hR
      go_upto_region 6 with fail
      generalize wr.alloc (.cells #[.bool g6, .slice a6 k6 c6, .slice a7 k7 c7] 70) = wz at *
      generalize wr.heap.size = b5 at *
      clear e0 e1 e2
      have x0 : wz.cell? ⟨b5, 0, none⟩ = some (.bool g6) := box_cell EP.out φp.le_refl hS1.out.inv.fz 0
      have x1 : wz.cell? ⟨b5, 1, none⟩ = some (.slice a6 k6 c6) := box_cell EP.out φp.le_refl hS1.out.inv.fz 1
      have x2 : wz.cell? ⟨b5, 2, none⟩ = some (.slice a7 k7 c7) := box_cell EP.out φp.le_refl hS1.out.inv.fz 2
      obtain ⟨q, hq⟩ : ∃ q, Hid (sgI sk = q) := ⟨_, Lib.hid rfl⟩
      have hqz : q = 0 ↔ sk = 0 := by rw [← hq.out]; exact sgI_z
      have LR := Lib.hid φp.le_refl
      by_cases hq0 : q = 0
      · have hqi : ((q : Int) == 0) = true := by simp [hq0]
        have hqj : ((q : Int) != 0) = false := by simp [hq0]
        have hR2 := Lib.hid (hRz.out (hqz.1 hq0))
        clear hqz hq0 hRz hRm
        go_wp2_with (go_at_call 76; (with_reducible refine (Sign_P (OwG.sta _ _ _ _ _ _) HX LR hq hS1).mono ?_); rintro e w4 ⟨rfl, S4⟩)
        go_roundw
        case rel => exact ⟨k + 1, rs, φp, by omega, by go_num, LP, hrl, hR2, S4⟩
        case measure => (simp [intOf] <;> omega)
      · have hqi : ((q : Int) == 0) = false := by simp [hq0]
        have hqj : ((q : Int) != 0) = true := by simp [hq0]
        have hsk0 : Hid (sk ≠ 0) := Lib.hid (fun h => hq0 (hqz.2 h))
        clear hqz hq0 hRz
        go_upto_region 7 with (go_at_call 76; (with_reducible refine (Sign_P (OwG.sta _ _ _ _ _ _) HX LR hq hS1).mono ?_); rintro e w4 ⟨rfl, S4⟩)
        clear x0 x1 x2
        have HLP0 := Lib.hid hS1.out.inv.le
        have HSd : Hid (OwG w φ φp 70 (some ⟨gf, 0, none⟩) nt rs w4.drew) := Lib.hid (S4.out.callB (bdrewN (Below.refl _ w4) 1))
        have hcf := Lib.hid (fun (ψ : Phi) (W : World) (hl : Hid (φp.le ψ)) (hf : Fz ψ W) => (⟨F1.out W (hf.sub (HLP0.out.trans hl.out)), (FT.out W (hf.sub (HLP0.out.trans hl.out))).1, (FT.out W (hf.sub (HLP0.out.trans hl.out))).2, box_cell EP.out hl.out hf 0, box_cell EP.out hl.out hf 1, box_cell EP.out hl.out hf 2⟩ : W.cell? ⟨bm, om + mi * 2 + 1, none⟩ = some (.slice (some ⟨bt, ot, none⟩) nt cr) ∧ W.cell? ⟨bt, ot + k * 2, none⟩ = some (.string s) ∧ W.cell? ⟨bt, ot + k * 2 + 1, none⟩ = some (.string t) ∧ W.cell? ⟨b5, 0, none⟩ = some (.bool g6) ∧ W.cell? ⟨b5, 1, none⟩ = some (.slice a6 k6 c6) ∧ W.cell? ⟨b5, 2, none⟩ = some (.slice a7 k7 c7)))
        obtain ⟨y0, y1, y2, y3, y4, y5⟩ := hcf.out φp w4.drew LR HSd.out.inv.fz
        obtain ⟨z0, z1, z2, z3, z4, z5⟩ := hcf.out φp w4 LR S4.out.inv.fz
        go_region_held3 (fun w' => w'.cell? ⟨bm, om + mi * 2 + 1, none⟩ = some (.slice (some ⟨bt, ot, none⟩) nt cr) ∧ w'.cell? ⟨bt, ot + k * 2, none⟩ = some (.string s) ∧ w'.cell? ⟨bt, ot + k * 2 + 1, none⟩ = some (.string t) ∧ w'.cell? ⟨b5, 0, none⟩ = some (.bool g6) ∧ w'.cell? ⟨b5, 1, none⟩ = some (.slice a6 k6 c6) ∧ w'.cell? ⟨b5, 2, none⟩ = some (.slice a7 k7 c7)) (first | done | with_reducible exact ⟨y0, y1, y2, y3, y4, y5⟩ | with_reducible exact ⟨z0, z1, z2, z3, z4, z5⟩ | with_reducible exact ⟨by assumption, by assumption, by assumption, by assumption, by assumption, by assumption⟩ | fail) (first
          | ((with_reducible refine (Over_P (OwG.sta _ _ _ _ _ _) hD hM V2 (Lib.hid φ2.le_refl) HX L2 hsk0 HBO hrefo S2).mono ?_); rintro e w3 ⟨g3, a8, k8, c8, a9, k9, c9, φ3, rfl, S3, L3, V3⟩; have L23 := Lib.hid (L2.out.trans L3.out); obtain ⟨gf', hgf', -, -, -, o0, o1, o2, ofr, hset⟩ := S3.out.own.rawD hrl hlt; cases hgf'; have o3 := ofr (k * 3); have o4 := ofr (k * 3 + 1); have o5 := ofr (k * 3 + 2); have hst := Lib.hid (hset ⟨g3, a8, k8, c8, a9, k9, c9⟩ w φ S3.out.inv); obtain ⟨v0, v1, v2, v3, v4, v5⟩ := hcf.out φ3 w3 L23 S3.out.inv.fz; obtain ⟨n0, n1, n2, n3, n4, n5⟩ := hcf.out φ3 _ L23 hst.out.2.fz; clear hset ofr)
          | ((with_reducible refine (FracOf_P (OwG.sta _ _ _ _ _ _) hD HM2.out hsz hrf hxt hbd HSd).mono ?_); rintro e w2' ⟨g2, a2, k2, c2, a3, k3, c3, φ2, rfl, S2, L2, V2⟩; obtain ⟨u0, u1, u2, u3, u4, u5⟩ := hcf.out φ2 w2' L2 S2.out.inv.fz)
          | fail)
        all_goals
          have HN : Hid (OwG w φ φ3 70 (some ⟨gf, 0, none⟩) nt (rs.set k ⟨g3, a8, k8, c8, a9, k9, c9⟩) (((w3.setCell ⟨gf, k * 3, none⟩ (.bool g3)).setCell ⟨gf, k * 3 + 1, none⟩ (.slice a8 k8 c8)).setCell ⟨gf, k * 3 + 2, none⟩ (.slice a9 k9 c9))) := Lib.hid ⟨hst.out.2, hst.out.1⟩
          have hR2 := Lib.hid (hRm.out φ3 L23.out ⟨g3, a8, k8, c8, a9, k9, c9⟩ (fun _ => V3.out))
          have L9 := Lib.hid (LP.out.trans L23.out)
          clear hst hcf hRm o0 o1 o2 o3 o4 o5
          go_wp2
          go_roundw
          case rel => exact ⟨k + 1, rs.set k ⟨g3, a8, k8, c8, a9, k9, c9⟩, φ3, by omega, by go_num, L9, Lib.hid (by rw [List.length_set, hrl.out]), hR2, HN⟩
          case measure => (simp [intOf] <;> omega)
    · obtain rfl : k = nt := by omega
      obtain ⟨φ2, l2, i2, s2, _⟩ := hS.out.own.release hS.out.inv
      have SF := Lib.hid s2
      have LF := Lib.hid (hle.out.trans l2)
      have hRF : Hid (∀ c, c < k → celQ (fun j => ws.getD j 0) l mi (c : Int) n ≠ 0 → FfX φ2 (rs.getD c raw0).v (ttQ T c / celQ (fun j => ws.getD j 0) l mi (c : Int) n) (N0 * DB) (N0 * NB)) := Lib.hid (fun c hc hne => (hR.out c hc hne).mono l2)
      have hS3 : Hid (OwG w φ φ2 70 none 0 ([] : List (Fx N2 D2)) wr) := Lib.hid ⟨i2, Own.nil _ _ _ _⟩
      clear hS hR hle i2 s2 l2
      go_wp2
      go_loopw [15, 54] (fun ov iv wr => ∃ (j : Nat) (ao : Option Addr) (co : Nat) (os : List (Fx N2 D2)) (φ' : Phi), j ≤ n ∧ iv = .int .i64 (j : Int) ∧ ov = .slice ao os.length co ∧ Hid (os.length = j) ∧ Hid (os = (fitL ch ws l mi T n j).map Fx.mk) ∧ Hid (φ2.le φ') ∧ Hid (OwG w φ φ' 70 ao co os wr)) (fun _ iv _ => n - (intOf iv).toNat)
      case atStart => exact ⟨0, none, 0, [], φ2, Nat.zero_le _, rfl, rfl, Lib.hid rfl, Lib.hid rfl, Lib.hid φ2.le_refl, hS3⟩
      case round =>
        clear hS3
        obtain ⟨j, ao, co, os, φ', hj, rfl, rfl, hol, hL, hle, hS⟩ := hrel
        by_cases hjl : j < n
        · have hjli : (j : Int) < (n : Int) := by omega
          obtain ⟨b, off, rfl, fp⟩ := HSL.out.psnsD hn hjl
          obtain ⟨ac, cc, sc, f2⟩ := fp j hjl
          obtain ⟨d0, d1, d2, d3, d4, d5⟩ := f2 wr (hS.out.inv.fz.sub hS.out.inv.le)
          obtain ⟨hml', ct, hct, hce⟩ := hc.out j hjl
          have hce2 : Hid (celI l mi j = (ct : Int)) := Lib.hid hce
          unfold celI at hce
          generalize l.getD j psn0 = p at *
          obtain ⟨⟨s, t⟩, cs, x, y, z⟩ := p
          dsimp only at d0 d1 d2 d3 d4 d5 sc hce hml'
          obtain ⟨mc, hmc⟩ : ∃ m, cs.length = m := ⟨_, rfl⟩
          rw [hmc] at d2 hml'
          have hcn := Lib.hid hmc
          have hmcc : mc ≤ 9223372036854775807 := by have h1 := sc.capn; have h2 := sc.capm; rw [hmc] at h1; unfold maxLen at h2; omega
          obtain ⟨bc, oc, rfl, fc⟩ := sc.intsD hcn hml'
          have FC := Lib.hid (fc mi hml')
          rw [hce] at FC
          obtain ⟨bw, ow, rfl, fw⟩ := HSW.out.fxD hwm hjl
          obtain ⟨g6, a6, k6, c6, a7, k7, c7, hx, f6⟩ := fw j hjl
          have F6 := Lib.hid f6
          rw [fx_getD] at hx
          obtain ⟨bs, os_, rfl, fs⟩ := S1.out.fxD hsl hct
          obtain ⟨g4, a4, k4, c4, a5, k5, c5, hx4, f4⟩ := fs ct hct
          rw [fx_getD, hS_.out ct hct] at hx4
          have F4 := Lib.hid f4
          obtain ⟨bf, of_, hbf, ff⟩ := SF.out.rawD hrl hct
          cases hbf
          have FF := Lib.hid (ff ct hct)
          rw [Nat.zero_add] at FF
          obtain ⟨φp, lp, ip, ep⟩ := (Inv.start hS.out.inv.fz).frz (.cells #[.string s, .string t, .slice (some ⟨bc, oc, none⟩) mc cc, .int .i64 x, .int .i64 y, .int .i64 z] 76)
          have hS1 := Lib.hid (hS.out.call ip)
          have LP := Lib.hid (hle.out.trans lp)
          have L1P := Lib.hid (LF.out.trans LP.out)
          have EP := Lib.hid ep
          have hmii : (mi : Int) < (mc : Int) := by omega
          have hcti : (ct : Int) < (k : Int) := by omega
          have d9 : (wr.alloc (.cells #[.string s, .string t, .slice (some ⟨bc, oc, none⟩) mc cc, .int .i64 x, .int .i64 y, .int .i64 z] 76)).cell? ⟨bc, oc + mi, none⟩ = some (.int .i64 (ct : Int)) := (FC.out _ (hS1.out.inv.fz.sub hS1.out.inv.le)).2
          have HX := Lib.hid (hx.mono hS1.out.inv.le)
          obtain ⟨sk, hsk⟩ : ∃ s, Hid (celQ (fun j => ws.getD j 0) l mi (ct : Int) n = s) := ⟨_, Lib.hid rfl⟩
          rw [hsk.out] at hx4
          have HX4 := Lib.hid (hx4.mono L1P.out)
          have hRc := Lib.hid (hRF.out ct hct)
          rw [hsk.out] at hRc
          have hfx : Hid (fitX ch ws l mi T n j = if sk = 0 then ws.getD j 0 else ch (ws.getD j 0 * ttQ T ct / sk)) := Lib.hid (by unfold fitX; rw [hce2.out, hsk.out, Int.toNat_natCast])
          have HB2 := Lib.hid (hB2.out (by omega))
          have hos3 : os.length ≤ 3000 := by rw [hol.out]; omega
          clear fp f2 hmc fc fw hx f6 ip ep lp hS hce hle fs f4 ff hx4
          go_upto_region 13 with fail
          generalize wr.alloc (.cells #[.string s, .string t, .slice (some ⟨bc, oc, none⟩) mc cc, .int .i64 x, .int .i64 y, .int .i64 z] 76) = wz at *
          generalize wr.heap.size = b5 at *
          clear d0 d1 d2 d3 d4 d5
          have x2 : wz.cell? ⟨b5, 2, none⟩ = some (.slice (some ⟨bc, oc, none⟩) mc cc) := box_cell EP.out φp.le_refl hS1.out.inv.fz 2
          obtain ⟨q, hq⟩ : ∃ q, Hid (sgI sk = q) := ⟨_, Lib.hid rfl⟩
          have hqz : q = 0 ↔ sk = 0 := by rw [← hq.out]; exact sgI_z
          have LR := Lib.hid φp.le_refl
          obtain ⟨e0, e1, e2⟩ := F4.out wz (hS1.out.inv.fz.sub L1P.out)
          go_upto_region 14 with fail
          clear x2 d9
          by_cases hq0 : q = 0
          · have hqi : ((q : Int) == 0) = true := by simp [hq0]
            have hqj : ((q : Int) != 0) = false := by simp [hq0]
            have hnx : Hid (os ++ [⟨ws.getD j 0⟩] = (fitL ch ws l mi T n (j + 1)).map (Fx.mk (N := N2) (D := D2))) := Lib.hid (by
              rw [fitL_succ, List.map_append, ← hL.out, hfx.out, if_pos (hqz.1 hq0)]; rfl)
            clear hqz hq0 hRc
            go_upto_region 15 with (go_at_call 76; (with_reducible refine (Sign_P (OwG.sta _ _ _ _ _ _) HX4 LR hq hS1).mono ?_); rintro e w4 ⟨rfl, S4⟩)
            clear e0 e1 e2
            obtain ⟨e0, e1, e2⟩ := F6.out w4 (S4.out.inv.fz.sub S4.out.inv.le)
            have hin := Lib.hid S4.out.inv
            have hon := Lib.hid S4.out.own
            have HREP : Hid (Rep.rep φp (⟨ws.getD j 0⟩ : Fx N2 D2) [.bool g6, .slice a6 k6 c6, .slice a7 k7 c7]) := Lib.hid ⟨g6, a6, k6, c6, a7, k7, c7, rfl, HX.out.le HB2.out.1 HB2.out.2⟩
            go_wp2_with (at_builtin; (refine wpList_app1F (α := Fx N2 D2) rfl _ _ 62 rfl (slFx _ _) hin.out ao co os hon.out #[.bool g6, .slice a6 k6 c6, .slice a7 k7 c7] 70 ⟨ws.getD j 0⟩ HREP.out rfl 1 rfl (by omega) ?_; intro a9 c9 w9 hi9 ho9 hg9 hf9; rw [show (os ++ [(⟨ws.getD j 0⟩ : Fx N2 D2)]).length = os.length + 1 from by rw [List.length_append]; rfl]))
            go_roundw
            case rel => exact ⟨j + 1, a9, c9, os ++ [⟨ws.getD j 0⟩], φp, by omega, by go_num, by rw [List.length_append]; rfl, Lib.hid (by rw [List.length_append, hol.out]; rfl), hnx, LP, Lib.hid ⟨hi9, ho9⟩⟩
            case measure => (simp [intOf] <;> omega)
          · have hqi : ((q : Int) == 0) = false := by simp [hq0]
            have hqj : ((q : Int) != 0) = true := by simp [hq0]
            have hsk0 : sk ≠ 0 := fun h => hq0 (hqz.2 h)
            have hnx : Hid (os ++ [⟨ch (ws.getD j 0 * (ttQ T ct / sk))⟩] = (fitL ch ws l mi T n (j + 1)).map (Fx.mk (N := N2) (D := D2))) := Lib.hid (by
              rw [fitL_succ, List.map_append, ← hL.out, hfx.out, if_neg hsk0, Rat.div_def, Rat.div_def, Rat.mul_assoc]; rfl)
            have HF := Lib.hid ((hRc.out hsk0).mono LP.out)
            clear hqz hq0 hRc
            generalize rs.getD ct raw0 = ry at *
            obtain ⟨gy, ay, ky, cy, ay', ky', cy'⟩ := ry
            have HF' : Hid (FfX φp (.agg #[.bool gy, .slice ay ky cy, .slice ay' ky' cy']) (ttQ T ct / sk) (N0 * DB) (N0 * NB)) := Lib.hid HF.out
            dsimp only at FF
            go_upto_region 16 with (go_at_call 76; (with_reducible refine (Sign_P (OwG.sta _ _ _ _ _ _) HX4 LR hq hS1).mono ?_); rintro e w4 ⟨rfl, S4⟩)
            clear e0 e1 e2
            have HSd : Hid (OwG w φ φp 70 ao co os w4.drew) := Lib.hid (S4.out.callB (bdrewN (Below.refl _ w4) 1))
            have hcf := Lib.hid (fun (ψ : Phi) (W : World) (hl : Hid (φp.le ψ)) (hf : Fz ψ W) => (⟨(F6.out W (hf.sub (hS1.out.inv.le.trans hl.out))).1, (F6.out W (hf.sub (hS1.out.inv.le.trans hl.out))).2.1, (F6.out W (hf.sub (hS1.out.inv.le.trans hl.out))).2.2, (FF.out W (hf.sub (LP.out.trans hl.out))).1, (FF.out W (hf.sub (LP.out.trans hl.out))).2.1, (FF.out W (hf.sub (LP.out.trans hl.out))).2.2⟩ : W.cell? ⟨bw, ow + j * 3, none⟩ = some (.bool g6) ∧ W.cell? ⟨bw, ow + j * 3 + 1, none⟩ = some (.slice a6 k6 c6) ∧ W.cell? ⟨bw, ow + j * 3 + 2, none⟩ = some (.slice a7 k7 c7) ∧ W.cell? ⟨gf, ct * 3, none⟩ = some (.bool gy) ∧ W.cell? ⟨gf, ct * 3 + 1, none⟩ = some (.slice ay ky cy) ∧ W.cell? ⟨gf, ct * 3 + 2, none⟩ = some (.slice ay' ky' cy')))
            obtain ⟨xx0, xx1, xx2, xx3, xx4, xx5⟩ := hcf.out φp w4.drew LR HSd.out.inv.fz
            have HLP := Lib.hid hS1.out.inv.le
            go_region_held_law (fun w' => w'.cell? ⟨bw, ow + j * 3, none⟩ = some (.bool g6) ∧ w'.cell? ⟨bw, ow + j * 3 + 1, none⟩ = some (.slice a6 k6 c6) ∧ w'.cell? ⟨bw, ow + j * 3 + 2, none⟩ = some (.slice a7 k7 c7) ∧ w'.cell? ⟨gf, ct * 3, none⟩ = some (.bool gy) ∧ w'.cell? ⟨gf, ct * 3 + 1, none⟩ = some (.slice ay ky cy) ∧ w'.cell? ⟨gf, ct * 3 + 2, none⟩ = some (.slice ay' ky' cy')) (first | with_reducible exact ⟨xx0, xx1, xx2, xx3, xx4, xx5⟩ | with_reducible exact ⟨by assumption, by assumption, by assumption, by assumption, by assumption, by assumption⟩ | with_reducible exact ⟨keepAP (by with_reducible assumption), keepAP (by with_reducible assumption), keepAP (by with_reducible assumption), keepAP (by with_reducible assumption), keepAP (by with_reducible assumption), keepAP (by with_reducible assumption)⟩ | fail) (first
              | (refine step_appF (α := Fx N2 D2) (by rfl) _ _ _ (by rfl) (slFx _ _) (SB.out.alloc _).inv ao co os (by rfl) (SB.out.alloc _).own ⟨wB.heap.size, 0, none⟩ 1 [Fx.mk (ch (ws.getD j 0 * (ttQ T ct / sk)))] [.bool gB, .slice aB kB cB, .slice aB' kB' cB'] 1 (by rfl) (by rfl) (RepL.single HREP.out) (new_cells wB #[.bool gB, .slice aB kB cB, .slice aB' kB' cB'] 70) (by show (os.length + 1) * 56 ≤ 140737488355328; omega) ?_; intro a9 c9 w9 hi9 ho9 hg9 hf9; have HF9 := Lib.hid (And.intro hi9 ho9); obtain ⟨gg0, gg1, gg2, gg3, gg4, gg5⟩ := hcf.out φB w9 LB hi9.fz; clear hi9 ho9 hg9 hf9)
              | (go_simp; go_at_call 34; (with_reducible refine (hch.out _ _ _ _ _ _ (OwG.sta w φ 70 ao co os) (Lib.hid (HLP.out.trans LA.out)) SA VA (Lib.hid φA.le_refl)).mono ?_); rintro e wB ⟨gB, aB, kB, cB, aB', kB', cB', φB, rfl, SB, LB0, VB⟩; have LB := Lib.hid (LA.out.trans LB0.out); have HREP : Hid (Rep.rep φB (⟨ch (ws.getD j 0 * (ttQ T ct / sk))⟩ : Fx N2 D2) [.bool gB, .slice aB kB cB, .slice aB' kB' cB']) := Lib.hid ⟨gB, aB, kB, cB, aB', kB', cB', rfl, VB.out⟩; obtain ⟨ee0, ee1, ee2, ee3, ee4, ee5⟩ := hcf.out φB wB LB SB.out.inv.fz)
              | (go_simp; go_at_call 78; (with_reducible refine (Times_P (OwG.sta w φ 70 ao co os) hD hM HX LR HF' LR HBT hrefl HSd).mono ?_); rintro e wA ⟨gA, aA, kA, cA, aA', kA', cA', φA, rfl, SA, LA, VA⟩; obtain ⟨dd0, dd1, dd2, dd3, dd4, dd5⟩ := hcf.out φA wA LA SA.out.inv.fz)
              | fail)
            all_goals
              go_wp2
              go_roundw
              case rel => exact ⟨j + 1, a9, c9, os ++ [⟨ch (ws.getD j 0 * (ttQ T ct / sk))⟩], φB, by omega, by go_num, by rw [List.length_append]; rfl, Lib.hid (by rw [List.length_append, hol.out]; rfl), hnx, Lib.hid (LP.out.trans LB.out), Lib.hid ⟨HF9.out.1, HF9.out.2⟩⟩
              case measure => (simp [intOf] <;> omega)
        · obtain rfl : j = n := by omega
          obtain ⟨φ3, hl3, hi3, hs3, _⟩ := hS.out.own.release hS.out.inv
          rw [hL.out] at hs3
          have HI3 := Lib.hid hi3
          have HS3 := Lib.hid hs3
          clear hi3 hs3 hS hl3
          rw [hol.out]
          go_wp2
          go_ret
          exact ⟨ao, co, φ3, (by rw [List.length_map, fitL_len]; rfl), HI3.out, HS3.out⟩
end Go.Proofs.YtmlpjffnmkndoaaGreatDoor

namespace Go.Proofs.YtmlpjffnmkndoaaGreatDoor
open Go.RowKit
set_option linter.unusedVariables false
set_option linter.unusedSimpArgs false
theorem ftB_two {M N n : Nat} (h : FtB M N N n N) : N * (N * N ^ n) ≤ M ∧ N * (N * (n * N * N ^ n)) ≤ M := ⟨h.c5, h.c6⟩
theorem ftB_le {N n : Nat} (h1 : 1 ≤ N) (hn : 0 < n) : N ≤ N * (N * N ^ n) ∧ N ≤ N * (N * (n * N * N ^ n)) :=
  ⟨Nat.le_mul_of_pos_right _ (Nat.mul_pos h1 (Nat.pow_pos h1)), Nat.le_mul_of_pos_right _ (Nat.mul_pos h1 (Nat.mul_pos (Nat.mul_pos hn h1) (Nat.pow_pos h1)))⟩
/-- Empty cells of people whose weights are more than 0. -/
theorem nob_pos {l : List Psn} {i n nt : Nat} {T : List Rti} (h : ∀ j, j < n → 0 < wgtQ l j) : nobB (fun c => ∀ j, j < n → celI l i j ≠ (c : Int)) T nt = nobB (fun c => celQ (wgtQ l) l i (c : Int) n = 0) T nt :=
  nobB_congr (fun c _ => (celQ_zero h).symm)
set_option maxRecDepth 100000 in
set_option maxHeartbeats 4000000 in
theorem Post_any {M : Nat} (hD : Hid (DivOk M)) (hM : LenB M) (hM2 : p10 2000 ≤ M) {N : Nat} (hN : Hid (N = 1000000000000)) {mm : List Mgn} {nm cm : Nat} {am : Option Addr} {n : Nat} (hB : Hid (n ≤ 3000 → FtB M N N n N)) {a : Option Addr} {cap : Nat} {l : List Psn} {w : World} {φ : Phi} (hφ : Fz φ w) (hp : PowP φ) (sm : SlV φ am cm mm) (hnm : Hid (mm.length = nm)) (hgm : Hid (∀ x ∈ mm, MgnG x)) (sl : SlV φ a cap l) (hn : Hid (l.length = n)) (hsz : Hid (∀ p ∈ l, PsnG p)) {mi : Int} (hmi : -9223372036854775808 ≤ mi ∧ mi ≤ 9223372036854775807) {L : List Rti} {F : Int} (hR : Hid (pstR mm l mi = (L, F))) :
    Calls Tryz.prog 8 #[.slice am nm cm, .slice a n cap, .int .i64 mi] w (SlPost (L, F) φ w) := by
  have HM2 := Lib.hid hM2
  have HP := Lib.hid hp
  have HSM := Lib.hid sm
  have HSL := Lib.hid sl
  have hnml : nm ≤ 9223372036854775807 := by have := sm.capn; have := sm.capm; rw [hnm.out] at *; unfold maxLen at *; omega
  have HI : Hid (Inv w.heap.size w φ φ w) := Lib.hid (Inv.start hφ)
  obtain ⟨f, hf⟩ : ∃ x, Hid (ppmF mm l = x) := ⟨_, Lib.hid rfl⟩
  clear hM2 hφ hp sm sl
  by_cases hf0 : f = 0
  case neg =>
    have HQ := Lib.hid (hR.out.symm.trans (pstR_bad hf.out hf0))
    have h0i : (f == 0) = false := by simp [hf0]
    have h0j : (f != 0) = true := by simp [hf0]
    clear hf0
    go_enter Tryz.func8, Tryz.ntmps8
    go_wp2_with (go_at_call 22; (with_reducible refine (CheckPeople_any hD hM HM2.out HI.out.fz HSM.out hnm hgm HSL.out hn hsz hf).mono ?_); rintro e w1 ⟨rfl, hb1⟩; have I1 := Lib.hid (HI.out.callB hb1); clear hb1)
    go_ret2
    obtain ⟨rfl, rfl⟩ := Prod.mk.inj HQ.out
    exact ⟨none, 0, φ, rfl, I1.out, SlV.empty φ⟩
  case pos =>
  subst hf0
  obtain ⟨o, ho⟩ : ∃ o, Hid (outB mi 0 ((nm : Int) - 1) = o) := ⟨_, Lib.hid rfl⟩
  cases o
  case true =>
    have HQ := Lib.hid (hR.out.symm.trans (pstR_out hf.out hnm.out ho.out))
    go_enter Tryz.func8, Tryz.ntmps8
    go_wp2_with (first
      | (go_at_call 22; (with_reducible refine (CheckPeople_any hD hM HM2.out HI.out.fz HSM.out hnm hgm HSL.out hn hsz hf).mono ?_); rintro e w1 ⟨rfl, hb1⟩; have I1 := Lib.hid (HI.out.callB hb1); clear hb1)
      | (go_at_call 29; (with_reducible refine (outW _ _ _ _ ho).mono ?_); rintro e w' ⟨rfl, rfl⟩))
    go_ret2
    obtain ⟨rfl, rfl⟩ := Prod.mk.inj HQ.out
    exact ⟨none, 0, φ, rfl, I1.out, SlV.empty φ⟩
  case false =>
  obtain ⟨i, rfl, hi⟩ := outB_in ho.out
  obtain ⟨q1, q2, q3, q4, q5⟩ := ppmF_cells hnm.out hn.out hf.out
  have hnm8 := q1
  have hn3 := q2
  have hok := Lib.hid q3
  obtain ⟨nt, hnt9⟩ : ∃ x, Hid ((mm.getD i mgn0).2.length = x) := ⟨_, Lib.hid rfl⟩
  have hnt40 : nt ≤ 40 := by rw [← hnt9.out]; exact q4 i hi
  have hcel := Lib.hid (q5 i hi)
  rw [hnt9.out] at hcel
  have hT : Hid (∀ r ∈ (mm.getD i mgn0).2, RtiG r ∧ shoF r.1 r.2 = 0) := Lib.hid (fun r hr => by
    have hmem : mm.getD i mgn0 ∈ mm := by rw [getD_elem0 _ _ _ (by rw [hnm.out]; exact hi)]; exact List.getElem_mem _
    exact ⟨(hgm.out _ hmem).2 r hr, (ppmF_tot hnm.out hf.out i hi r hr).1⟩)
  have hpos := Lib.hid (ppmF_pos hn.out hf.out)
  obtain ⟨b, hb⟩ : ∃ b, Hid (nobB (fun c => ∀ j, j < n → celI l i j ≠ (c : Int)) (mm.getD i mgn0).2 nt = b) := ⟨_, Lib.hid rfl⟩
  have hb2 := Lib.hid ((nob_pos (T := (mm.getD i mgn0).2) (nt := nt) (i := i) hpos.out).symm.trans hb.out)
  have HE := Lib.hid (fun W (hf : Fz φ W) => empty_any hD HM2.out hf HSM.out hnm hi hnt9 hT HSL.out hn hn3 hnt40 (by omega) hcel hb)
  cases b
  case true =>
    have HQ := Lib.hid (hR.out.symm.trans (pstR_nob hf.out hnm.out hn.out ho.out hnt9.out hb2.out))
    clear q1 q2 q3 q4 q5
    go_enter Tryz.func8, Tryz.ntmps8
    go_wp2_with (first
      | (go_at_call 22; (with_reducible refine (CheckPeople_any hD hM HM2.out HI.out.fz HSM.out hnm hgm HSL.out hn hsz hf).mono ?_); rintro e w1 ⟨rfl, hb1⟩; have I1 := Lib.hid (HI.out.callB hb1); clear hb1)
      | (go_at_call 29; (with_reducible refine (outW _ _ _ _ ho).mono ?_); rintro e w' ⟨rfl, rfl⟩)
      | (go_at_call 30; (with_reducible refine (HE.out _ I1.out.fz).mono ?_); rintro e w2 ⟨rfl, hb9⟩; have I2 := Lib.hid (I1.out.callB hb9); clear hb9))
    go_ret2
    obtain ⟨rfl, rfl⟩ := Prod.mk.inj HQ.out
    exact ⟨none, 0, φ, rfl, I2.out, SlV.empty φ⟩
  case false =>
  have HQ := Lib.hid ((pstR_ok hf.out hnm.out hn.out ho.out hnt9.out hb2.out).symm.trans hR.out)
  have hBB := Lib.hid (hB.out hn3)
  have hN1 : 1 ≤ N := by rw [hN.out]; decide
  have HW : Hid (∀ (ψ : Phi) (W : World), Fz ψ W → φ.le ψ → Calls Tryz.prog 33 #[.slice a n cap] W (SlPost1 ((wsL l n).map (Fx.mk (N := N) (D := N))) ψ W)) := Lib.hid (by
    have e := hN.out
    subst e
    intro ψ W hf hl
    have := weightsOf_any hD HM2.out hf (HSL.out.mono hl) hn hn3 hsz hok
    rwa [fxw_L rfl hn.out])
  have hwl : Hid (((wsL l n).map (Fx.mk (N := N) (D := N))).length = n) := Lib.hid (by rw [List.length_map, wsL_len])
  have HF := Lib.hid (fun (aw : Option Addr) (cw : Nat) (ψ : Phi) (W : World) (hf : Fz ψ W) (hl : φ.le ψ) (sw : SlV ψ aw cw ((wsL l n).map (Fx.mk (N := N) (D := N)))) => fitted_post (ch := id) hD hM HM2.out hN hN1 hBB (Lib.hid (fun h => ftB_le hN1 h)) hf (HSM.out.mono hl) hnm hi hnt9 hT (HSL.out.mono hl) hn sw (Lib.hid wsL_len) hn3 hnt40 (by omega) hcel (Lib.hid (fun P ψ1 ψ W v x hP _ hS hV hl2 => postid_P hP hS hV hl2)))
  have HR9 := Lib.hid (fun (aw : Option Addr) (cw : Nat) (ψ : Phi) (W : World) (hf : Fz ψ W) (hl : φ.le ψ) (sw : SlV ψ aw cw ((fitL id (wsL l n) l i (mm.getD i mgn0).2 n n).map (Fx.mk (N := N * (N * N ^ n)) (D := N * (N * (n * N * N ^ n)))))) => Ratios_any hD hM hBB.out.c5 hBB.out.c6 hf (HP.out.mono hl) sw (Lib.hid fitL_len) hn3 HQ)
  obtain ⟨XS, hXS⟩ : ∃ x, fitL id (wsL l n) l i (mm.getD i mgn0).2 n n = x := ⟨_, rfl⟩
  have hxl : Hid (XS.length = n) := Lib.hid (by rw [← hXS]; exact fitL_len)
  rw [hXS] at HF HR9
  generalize N * (N * N ^ n) = NX at *
  generalize N * (N * (n * N * N ^ n)) = DX at *
  have hxm : Hid ((XS.map (Fx.mk (N := NX) (D := DX))).length = n) := Lib.hid (by rw [List.length_map, hxl.out])
  clear q1 q2 q3 q4 q5 hB hXS HQ hR
  go_enter Tryz.func8, Tryz.ntmps8
  go_wp2_with (first
    | (go_at_call 31; (with_reducible refine (HR9.out _ _ _ _ I4.out.fz I4.out.le S4.out).mono ?_); rintro e w5 ⟨aT, cT, φ5, rfl, hi5, s5⟩; have I5 := Lib.hid (I4.out.call hi5); have S5 := Lib.hid s5; clear hi5 s5)
    | (go_at_call 32; (with_reducible refine (HF.out _ _ _ _ I3.out.fz I3.out.le S3.out).mono ?_); rintro e w4 ⟨a4, c4, φ4, rfl, hi4, s4⟩; rw [hxm.out]; have I4 := Lib.hid (I3.out.call hi4); have S4 := Lib.hid s4; clear hi4 s4)
    | (go_at_call 33; (with_reducible refine (HW.out φ _ I2.out.fz φ.le_refl).mono ?_); rintro e w3 ⟨aw, cw, φ3, rfl, hi3, s3⟩; rw [hwl.out]; have I3 := Lib.hid (I2.out.call hi3); have S3 := Lib.hid s3; clear hi3 s3)
    | (go_at_call 30; (with_reducible refine (HE.out _ I1.out.fz).mono ?_); rintro e w2 ⟨rfl, hb9⟩; have I2 := Lib.hid (I1.out.callB hb9); clear hb9)
    | (go_at_call 29; (with_reducible refine (outW _ _ _ _ ho).mono ?_); rintro e w' ⟨rfl, rfl⟩)
    | (go_at_call 22; (with_reducible refine (CheckPeople_any hD hM HM2.out HI.out.fz HSM.out hnm hgm HSL.out hn hsz hf).mono ?_); rintro e w1 ⟨rfl, hb1⟩; have I1 := Lib.hid (HI.out.callB hb1); clear hb1))
  go_ret2
  exact ⟨aT, cT, φ5, rfl, I5.out, S5.out⟩
end Go.Proofs.YtmlpjffnmkndoaaGreatDoor

namespace Go.Proofs.YtmlpjffnmkndoaaGreatDoor
open Go.RowKit
set_option linter.unusedVariables false
set_option linter.unusedSimpArgs false
set_option maxRecDepth 100000 in
set_option maxHeartbeats 2000000 in
theorem nobody_any {N D : Nat} {nm : ByteArray} {T : List Rti} {nt cr : Nat} {ar : Option Addr} {xs : List Rat} {ax : Option Addr} {cx : Nat} {w : World} {φ : Phi} (hφ : Fz φ w) (sr : SlV φ ar cr T) (hnt9 : Hid (T.length = nt)) (hT : Hid (∀ r ∈ T, shoF r.1 r.2 = 0)) (sx : SlV φ ax cx (xs.map (Rx.mk (N := N) (D := D)))) (hxs : Hid (xs.length = nt)) (hnt : nt ≤ 40) {b : Bool} (hb : Hid (nobB (fun c => xs.getD c 0 = 0) T nt = b)) :
    Calls Tryz.prog 69 #[.agg #[.string nm, .slice ar nt cr], .slice ax nt cx] w (fun e w' => e = .returned (.bool b) ∧ Below w.heap.size w w') := by
  have SR := Lib.hid sr
  have SX := Lib.hid sx
  have hxm : Hid ((xs.map (Rx.mk (N := N) (D := D))).length = nt) := Lib.hid (by rw [List.length_map, hxs.out])
  obtain ⟨φb, lb, ib, eb⟩ := (Inv.start hφ).frz (.cells #[.string nm, .slice ar nt cr] 30)
  have HI0 := Lib.hid ib
  have EB := Lib.hid eb
  have LB := Lib.hid lb
  clear hφ sr sx ib eb lb
  go_enter Tryz.func69, Tryz.ntmps69
  go_upto_region 1 with fail
  generalize w.alloc (.cells #[.string nm, .slice ar nt cr] 30) = wx at *
  obtain ⟨b4, hb4⟩ : ∃ b, w.heap.size = b := ⟨_, rfl⟩
  rw [hb4] at EB ⊢
  have HB4 := Lib.hid hb4
  clear hb4
  have x1 : wx.cell? ⟨b4, 1, none⟩ = some (.slice ar nt cr) := box_cell EB.out φb.le_refl HI0.out.fz 1
  go_wp2
  go_loopw [10] (fun iv wr => ∃ (k : Nat) (φ3 : Phi), k ≤ nt ∧ iv = .int .i64 (k : Int) ∧ Hid (∀ c, c < k → ¬ (xs.getD c 0 = 0 ∧ ttQ T c ≠ 0)) ∧ Hid (Inv w.heap.size w φ φ3 wr)) (fun iv _ => nt - (intOf iv).toNat)
  case atStart => exact ⟨0, φb, Nat.zero_le _, rfl, Lib.hid (fun c hc => absurd hc (Nat.not_lt_zero c)), HI0⟩
  case round =>
    clear x1 HI0
    obtain ⟨k, φ3, hk, rfl, hok, hS⟩ := hrel
    by_cases hlt : k < nt
    · have hlti : (k : Int) < (nt : Int) := by omega
      obtain ⟨bt, ot, rfl, ft⟩ := SR.out.rtisD hnt9 hlt
      obtain ⟨e0, e1⟩ := ft k hlt wr (hS.out.fz.sub hS.out.le)
      have hm : T.getD k rti0 ∈ T := by rw [getD_elem0 _ _ _ (by rw [hnt9.out]; exact hlt)]; exact List.getElem_mem _
      have hg2 := hT.out _ hm
      have htq : Hid (ttQ T k = ratX (T.getD k rti0).1 (T.getD k rti0).2) := Lib.hid rfl
      generalize T.getD k rti0 = p at *
      obtain ⟨s, t⟩ := p
      dsimp only at e0 e1 hg2 htq
      have hrf := Lib.hid (ratF_ok (shoF_ok hg2).1)
      have hbd := Lib.hid (sho_lt hg2)
      have hx : Hid (ratX s t = ttQ T k) := Lib.hid htq.out.symm
      obtain ⟨bs, os_, rfl, fs⟩ := SX.out.rxD hxm hlt
      obtain ⟨g6, a6, k6, c6, a7, k7, c7, hx6, f6⟩ := fs k hlt
      rw [rx_getD] at hx6
      obtain ⟨φp, lp, ip, ep⟩ := (Inv.start hS.out.fz).frz (.cells #[.string s, .string t] 32)
      have hS1 := Lib.hid (hS.out.call ip)
      have EP := Lib.hid ep
      have HX6 := Lib.hid ((hx6.mono hS.out.le).mono lp)
      have F6 := Lib.hid f6
      obtain ⟨sk, hsk⟩ : ∃ s, Hid (xs.getD k 0 = s) := ⟨_, Lib.hid rfl⟩
      rw [hsk.out] at HX6
      clear ft hm hg2 ip ep lp hS htq fs hx6 f6
      go_upto_region 4 with fail
      generalize wr.alloc (.cells #[.string s, .string t] 32) = wz at *
      generalize wr.heap.size = b5 at *
      clear e0 e1
      obtain ⟨y0, y1, y2⟩ := F6.out wz (hS1.out.fz.sub hS1.out.le)
      have LR := Lib.hid φp.le_refl
      obtain ⟨z, hz⟩ : ∃ z, Hid (decide (sk = 0) = z) := ⟨_, Lib.hid rfl⟩
      obtain ⟨z2, hz2⟩ : ∃ z, Hid (decide (ttQ T k = 0) = z) := ⟨_, Lib.hid rfl⟩
      have hbx := Lib.hid (fun (W : World) (hi : Inv w.heap.size w φ φp W) => (⟨box_cell EP.out φp.le_refl hi.fz 0, box_cell EP.out φp.le_refl hi.fz 1⟩ : W.cell? ⟨b5, 0, none⟩ = some (.string s) ∧ W.cell? ⟨b5, 1, none⟩ = some (.string t)))
      cases z
      · have hok2 : Hid (∀ c, c < k + 1 → ¬ (xs.getD c 0 = 0 ∧ ttQ T c ≠ 0)) := Lib.hid (fun c hc => by
          by_cases e : c = k
          · subst e; exact fun h => of_decide_eq_false hz.out (hsk.out.symm.trans h.1)
          · exact hok.out c (by omega))
        go_wp2_with (go_at_call 39; (with_reducible refine (RZero_P (Inv.sta _ _) HX6 LR hz hS1).mono ?_); rintro e w4 ⟨rfl, S4⟩)
        go_roundw
        case rel => exact ⟨k + 1, φp, by omega, by go_num, hok2, S4⟩
        case measure => (simp [intOf] <;> omega)
      · cases z2
        · have HB : Hid (b = true) := Lib.hid (by rw [← hb.out]; exact nobB_yes hlt (hsk.out.trans (of_decide_eq_true hz.out)) (of_decide_eq_false hz2.out))
          go_wp2_with (first
            | (go_at_call 39; (with_reducible refine (RZero_P (Inv.sta _ _) V2 (Lib.hid φ2.le_refl) hz2 S2).mono ?_); rintro e w5 ⟨rfl, S5⟩)
            | (go_at_call 12; (with_reducible refine (RFracOf_P (Inv.sta _ _) hrf hx hbd S4).mono ?_); rintro e w2 ⟨g2, a1, k1, c1, a2, k2, c2, φ2, rfl, S2, L2, V2⟩)
            | (go_at_call 39; (with_reducible refine (RZero_P (Inv.sta _ _) HX6 LR hz hS1).mono ?_); rintro e w4 ⟨rfl, S4⟩; obtain ⟨q0, q1⟩ := hbx.out _ S4.out)
            | fail)
          go_ret
          exact ⟨ret_bool HB.out.symm, HB4.out ▸ S5.out.bel⟩
        · have hok2 : Hid (∀ c, c < k + 1 → ¬ (xs.getD c 0 = 0 ∧ ttQ T c ≠ 0)) := Lib.hid (fun c hc => by
            by_cases e : c = k
            · subst e; exact fun h => h.2 (of_decide_eq_true hz2.out)
            · exact hok.out c (by omega))
          go_wp2_with (first
            | (go_at_call 39; (with_reducible refine (RZero_P (Inv.sta _ _) V2 (Lib.hid φ2.le_refl) hz2 S2).mono ?_); rintro e w5 ⟨rfl, S5⟩)
            | (go_at_call 12; (with_reducible refine (RFracOf_P (Inv.sta _ _) hrf hx hbd S4).mono ?_); rintro e w2 ⟨g2, a1, k1, c1, a2, k2, c2, φ2, rfl, S2, L2, V2⟩)
            | (go_at_call 39; (with_reducible refine (RZero_P (Inv.sta _ _) HX6 LR hz hS1).mono ?_); rintro e w4 ⟨rfl, S4⟩; obtain ⟨q0, q1⟩ := hbx.out _ S4.out)
            | fail)
          go_roundw
          case rel => exact ⟨k + 1, φ2, by omega, by go_num, hok2, S5⟩
          case measure => (simp [intOf] <;> omega)
    · obtain rfl : k = nt := by omega
      have HB : Hid (b = false) := Lib.hid (by rw [← hb.out]; exact nobB_no hok.out)
      go_wp2
      go_ret
      exact ⟨ret_bool HB.out.symm, HB4.out ▸ hS.out.bel⟩
set_option maxRecDepth 100000 in
set_option maxHeartbeats 4000000 in
theorem RPost_any {M : Nat} (hD : Hid (RdivOk M)) (hM : LenB M) (hM2 : p10 2000 ≤ M) {N : Nat} (hN : Hid (N = 1000000000000)) {mm : List Mgn} {nm cm : Nat} {am : Option Addr} {n : Nat} (hB : Hid (n ≤ 3000 → FtB M N N n N)) {a : Option Addr} {cap : Nat} {l : List Psn} {w : World} {φ : Phi} (hφ : Fz φ w) (hp : PowP φ) (htp : TabP φ) (sm : SlV φ am cm mm) (hnm : Hid (mm.length = nm)) (hgm : Hid (∀ x ∈ mm, MgnG x)) (sl : SlV φ a cap l) (hn : Hid (l.length = n)) (hsz : Hid (∀ p ∈ l, PsnG p)) {mi : Int} (hmi : -9223372036854775808 ≤ mi ∧ mi ≤ 9223372036854775807) {L : List Rti} {F : Int} (hR : Hid (pstR mm l mi = (L, F))) :
    Calls Tryz.prog 26 #[.slice am nm cm, .slice a n cap, .int .i64 mi] w (SlPost (L, F) φ w) := by
  have HM2 := Lib.hid hM2
  have HP := Lib.hid hp
  have HTP := Lib.hid htp
  have HSM := Lib.hid sm
  have HSL := Lib.hid sl
  have hnml : nm ≤ 9223372036854775807 := by have := sm.capn; have := sm.capm; rw [hnm.out] at *; unfold maxLen at *; omega
  have HI : Hid (Inv w.heap.size w φ φ w) := Lib.hid (Inv.start hφ)
  obtain ⟨f, hf⟩ : ∃ x, Hid (ppmF mm l = x) := ⟨_, Lib.hid rfl⟩
  clear hM2 hφ hp htp sm sl
  by_cases hf0 : f = 0
  case neg =>
    have HQ := Lib.hid (hR.out.symm.trans (pstR_bad hf.out hf0))
    have h0i : (f == 0) = false := by simp [hf0]
    have h0j : (f != 0) = true := by simp [hf0]
    clear hf0
    go_enter Tryz.func26, Tryz.ntmps26
    go_wp2_with (go_at_call 23; (with_reducible refine (RCheckPeople_any hD hM HM2.out HI.out.fz HP.out HTP.out HSM.out hnm hgm HSL.out hn hsz hf).mono ?_); rintro e w1 ⟨rfl, hb1⟩; have I1 := Lib.hid (HI.out.callB hb1); clear hb1)
    go_ret2
    obtain ⟨rfl, rfl⟩ := Prod.mk.inj HQ.out
    exact ⟨none, 0, φ, rfl, I1.out, SlV.empty φ⟩
  case pos =>
  subst hf0
  obtain ⟨o, ho⟩ : ∃ o, Hid (outB mi 0 ((nm : Int) - 1) = o) := ⟨_, Lib.hid rfl⟩
  cases o
  case true =>
    have HQ := Lib.hid (hR.out.symm.trans (pstR_out hf.out hnm.out ho.out))
    go_enter Tryz.func26, Tryz.ntmps26
    go_wp2_with (first
      | (go_at_call 23; (with_reducible refine (RCheckPeople_any hD hM HM2.out HI.out.fz HP.out HTP.out HSM.out hnm hgm HSL.out hn hsz hf).mono ?_); rintro e w1 ⟨rfl, hb1⟩; have I1 := Lib.hid (HI.out.callB hb1); clear hb1)
      | (go_at_call 67; (with_reducible refine (within9 _ _ _ _ ho).mono ?_); rintro e w' ⟨rfl, rfl⟩))
    go_ret2
    obtain ⟨rfl, rfl⟩ := Prod.mk.inj HQ.out
    exact ⟨none, 0, φ, rfl, I1.out, SlV.empty φ⟩
  case false =>
  obtain ⟨i, rfl, hi⟩ := outB_in ho.out
  obtain ⟨q1, q2, q3, q4, q5⟩ := ppmF_cells hnm.out hn.out hf.out
  have hnm8 := q1
  have hn3 := q2
  have hok := Lib.hid q3
  obtain ⟨nt, hnt9⟩ : ∃ x, Hid ((mm.getD i mgn0).2.length = x) := ⟨_, Lib.hid rfl⟩
  have hnt40 : nt ≤ 40 := by rw [← hnt9.out]; exact q4 i hi
  have hcel := Lib.hid (q5 i hi)
  rw [hnt9.out] at hcel
  have hT : Hid (∀ r ∈ (mm.getD i mgn0).2, shoF r.1 r.2 = 0) := Lib.hid (fun r hr => (ppmF_tot hnm.out hf.out i hi r hr).1)
  have hpos := Lib.hid (ppmF_pos hn.out hf.out)
  have hBB := Lib.hid (hB.out hn3)
  have hN1 : 1 ≤ N := by rw [hN.out]; decide
  have hweq : Hid (∀ c : Int, celQ (fun j => (wsL l n).getD j 0) l i c n = celQ (wgtQ l) l i c n) := Lib.hid (fun c => celQ_congr (n := n) (fun j hj => wsL_get hj) _ (Nat.le_refl _))
  obtain ⟨b, hb⟩ : ∃ b, Hid (nobB (fun c => (celR (wsL l n) l i nt n).getD c 0 = 0) (mm.getD i mgn0).2 nt = b) := ⟨_, Lib.hid rfl⟩
  have hb2 : Hid (nobB (fun c => celQ (wgtQ l) l i (c : Int) n = 0) (mm.getD i mgn0).2 nt = b) := Lib.hid (by
    rw [← hb.out]
    exact nobB_congr (fun c hc => by rw [celR_get hc, hweq.out]))
  obtain ⟨bm, om, rfl, fm⟩ := HSM.out.mgnsD hnm hi
  obtain ⟨ar, cr, sr, f1⟩ := fm i hi
  rw [hnt9.out] at f1
  obtain ⟨T, hTT⟩ : ∃ T, (mm.getD i mgn0).2 = T := ⟨_, rfl⟩
  have hst := Lib.hid (fun h => hR.out.symm.trans (pstR_nob hf.out hnm.out hn.out ho.out hnt9.out (hb2.out.trans h)))
  have hgo := Lib.hid (fun h => (pstR_ok hf.out hnm.out hn.out ho.out hnt9.out (hb2.out.trans h)).symm.trans hR.out)
  rw [hTT] at hnt9 hT sr hb hgo
  have SR := Lib.hid sr
  generalize (mm.getD i mgn0).1 = nk at *
  have F1 := Lib.hid f1
  have HW : Hid (∀ (ψ : Phi) (W : World), Fz ψ W → φ.le ψ → Calls Tryz.prog 56 #[.slice a n cap] W (SlPost1 ((wsL l n).map (Rx.mk (N := N) (D := N))) ψ W)) := Lib.hid (by
    have e := hN.out
    subst e
    intro ψ W hf hl
    have := Rweights_any hf (HSL.out.mono hl) hn hn3 hok
    rwa [rxw_L rfl hn.out])
  have hwl : Hid (((wsL l n).map (Rx.mk (N := N) (D := N))).length = n) := Lib.hid (by rw [List.length_map, wsL_len])
  have hcs := Lib.hid (fun (aw : Option Addr) (cw : Nat) (ψ : Phi) (W : World) (hf : Fz ψ W) (hl : φ.le ψ) (sw : SlV ψ aw cw ((wsL l n).map (Rx.mk (N := N) (D := N)))) => Rsums_any (nm := nk) (ar := ar) (cr := cr) (nt := nt) (mi := i) hD hM hN1 hBB.out.c1 hBB.out.c2 hf (HSL.out.mono hl) hn sw (Lib.hid wsL_len) hn3 hnt40 (by omega : i ≤ 8) hcel)
  have hNo := Lib.hid (fun (N' D' : Nat) (ax : Option Addr) (cx : Nat) (ψ : Phi) (W : World) (hf : Fz ψ W) (hl : φ.le ψ) (sx : SlV ψ ax cx ((celR (wsL l n) l i nt n).map (Rx.mk (N := N') (D := D')))) => nobody_any (nm := nk) hf (SR.out.mono hl) hnt9 hT sx (Lib.hid (by simp [celR])) hnt40 hb)
  have hNo1 := Lib.hid (hNo.out (n * N * N ^ n) (N ^ n))
  have hS_ := Lib.hid (fun c (h : c < nt) => (celR_get (ws := wsL l n) (l := l) (mi := i) (k := n) h).trans (hweq.out c))
  obtain ⟨h1, h2, h3, h4, h5, h6, h7, h8, h9, h10⟩ := hBB.out
  rw [← Nat.mul_assoc] at h5 h6
  obtain ⟨NB, hNB⟩ : ∃ x, n * N * N ^ n = x := ⟨_, rfl⟩
  obtain ⟨DB, hDB⟩ : ∃ x, N ^ n = x := ⟨_, rfl⟩
  rw [hNB] at hcs h6 hNo1
  rw [hDB] at hcs h5 h2 hNo1
  have HBO := Lib.hid (And.intro h5 (And.intro h6 h2))
  have HBT := Lib.hid (And.intro h8 (And.intro h9 (And.intro h7 h10)))
  obtain ⟨NX, hNX⟩ : ∃ x, N * N * DB = x := ⟨_, rfl⟩
  obtain ⟨DX, hDX⟩ : ∃ x, N * N * NB = x := ⟨_, rfl⟩
  have hrefo : Hid (N * N * DB ≤ NX ∧ N * N * NB ≤ DX) := Lib.hid ⟨Nat.le_of_eq hNX, Nat.le_of_eq hDX⟩
  have hrefl : Hid (N * N ≤ N * N ∧ N * N ≤ N * N) := Lib.hid ⟨Nat.le_refl _, Nat.le_refl _⟩
  have hNXM : NX ≤ M := by rw [← hNX]; exact h5
  have hDXM : DX ≤ M := by rw [← hDX]; exact h6
  have hsl : Hid (((celR (wsL l n) l i nt n).map (Rx.mk (N := NB) (D := DB))).length = nt) := Lib.hid (by simp [celR])
  have hmni : (i : Int) < (nm : Int) := by omega
  have d0 := Lib.hid (fun W (hf : Fz φ W) => F1.out W hf)
  clear q1 q2 q3 q4 q5 hB hR hNB hDB hNX hDX h1 h2 h3 h4 h5 h6 h7 h8 h9 h10 hNo fm f1 sr hb2
  go_enter Tryz.func26, Tryz.ntmps26
  go_upto_region 7 with (first
    | (go_at_call 56; (with_reducible refine (HW.out φ _ I1.out.fz φ.le_refl).mono ?_); rintro e w2 ⟨aw, cw, φ2, rfl, hi2, s2⟩; rw [hwl.out]; have I2 := Lib.hid (I1.out.call hi2); have S2 := Lib.hid s2; have L2 := Lib.hid hi2.le; clear hi2 s2)
    | (go_at_call 67; (with_reducible refine (within9 _ _ _ _ ho).mono ?_); rintro e w' ⟨rfl, rfl⟩)
    | (go_at_call 23; (with_reducible refine (RCheckPeople_any hD hM HM2.out HI.out.fz HP.out HTP.out HSM.out hnm hgm HSL.out hn hsz hf).mono ?_); rintro e w1 ⟨rfl, hb1⟩; have I1 := Lib.hid (HI.out.callB hb1); clear hb1))
  obtain ⟨x0, x1⟩ := d0.out w2 (I2.out.fz.sub I2.out.le)
  go_upto_region 8 with (go_at_call 55; (with_reducible refine (hcs.out _ _ _ _ I2.out.fz I2.out.le S2.out).mono ?_); rintro e w3 ⟨a3, c3, φ3, rfl, hi3, s3⟩; rw [hsl.out]; have I3 := Lib.hid (I2.out.call hi3); have S3 := Lib.hid s3; have L3 := Lib.hid hi3.le; have L23 := Lib.hid (L2.out.trans hi3.le); clear hi3 s3)
  clear x0 x1
  obtain ⟨x0, x1⟩ := d0.out w3 (I3.out.fz.sub I3.out.le)
  cases b
  case true =>
    have HQ := Lib.hid (hst.out rfl)
    clear hst hgo
    go_wp2_with (go_at_call 69; (with_reducible refine (hNo1.out _ _ _ _ I3.out.fz I3.out.le S3.out).mono ?_); rintro e w4 ⟨rfl, hb4⟩; have I4 := Lib.hid (I3.out.callB hb4); clear hb4)
    go_ret2
    obtain ⟨rfl, rfl⟩ := Prod.mk.inj HQ.out
    exact ⟨none, 0, φ3, rfl, I4.out, SlV.empty φ3⟩
  case false =>
  have HQ := Lib.hid (hgo.out rfl)
  clear hst hgo
  go_upto_region 10 with (go_at_call 69; (with_reducible refine (hNo1.out _ _ _ _ I3.out.fz I3.out.le S3.out).mono ?_); rintro e w4 ⟨rfl, hb4⟩; have I4 := Lib.hid (I3.out.callB hb4); clear hb4)
  clear x0 x1
  have hS0 : Hid (OwR w φ φ3 36 none 0 ([] : List (Rx NX DX)) w4) := Lib.hid ⟨I4.out, Own.nil _ _ _ _⟩
  clear I1 I2 I3 I4
  go_wp2
  go_loopw [11, 45] (fun ov iv wr => ∃ (j : Nat) (ao : Option Addr) (co : Nat) (os : List (Rx NX DX)) (φ' : Phi), j ≤ n ∧ iv = .int .i64 (j : Int) ∧ ov = .slice ao os.length co ∧ Hid (os.length = j) ∧ Hid (os = (fitL id (wsL l n) l i T n j).map Rx.mk) ∧ Hid (φ3.le φ') ∧ Hid (OwR w φ φ' 36 ao co os wr)) (fun _ iv _ => n - (intOf iv).toNat)
  case atStart => exact ⟨0, none, 0, [], φ3, Nat.zero_le _, rfl, rfl, Lib.hid rfl, Lib.hid rfl, Lib.hid φ3.le_refl, hS0⟩
  case round =>
    clear hS0
    obtain ⟨j, ao, co, os, φ', hj, rfl, rfl, hol, hL, hle, hS⟩ := hrel
    by_cases hjl : j < n
    · have hjli : (j : Int) < (n : Int) := by omega
      obtain ⟨b, off, rfl, fp⟩ := HSL.out.psnsD hn hjl
      obtain ⟨ac, cc, sc, f2⟩ := fp j hjl
      obtain ⟨d0', d1, d2, d3, d4, d5⟩ := f2 wr (hS.out.inv.fz.sub hS.out.inv.le)
      obtain ⟨hml', ct, hct, hce⟩ := hcel.out j hjl
      have hce2 : Hid (celI l i j = (ct : Int)) := Lib.hid hce
      unfold celI at hce
      generalize l.getD j psn0 = p at *
      obtain ⟨⟨s1, t1⟩, cs, x, y, z⟩ := p
      dsimp only at d0' d1 d2 d3 d4 d5 sc hce hml'
      obtain ⟨mc, hmc⟩ : ∃ m, cs.length = m := ⟨_, rfl⟩
      rw [hmc] at d2 hml'
      have hcn := Lib.hid hmc
      have hmcc : mc ≤ 9223372036854775807 := by have h1 := sc.capn; have h2 := sc.capm; rw [hmc] at h1; unfold maxLen at h2; omega
      obtain ⟨bc, oc, rfl, fc⟩ := sc.intsD hcn hml'
      have FC := Lib.hid (fc i hml')
      rw [hce] at FC
      obtain ⟨bw, ow, rfl, fw⟩ := S2.out.rxD hwl hjl
      obtain ⟨g6, a6, k6, c6, a7, k7, c7, hx, f6⟩ := fw j hjl
      have F6 := Lib.hid f6
      rw [rx_getD, wsL_get hjl] at hx
      obtain ⟨bs, os_, rfl, fs⟩ := S3.out.rxD hsl hct
      obtain ⟨g4, a4, k4, c4, a5, k5, c5, hx4, f4⟩ := fs ct hct
      rw [rx_getD, hS_.out ct hct] at hx4
      have F4 := Lib.hid f4
      obtain ⟨bt, ot, rfl, ft⟩ := SR.out.rtisD hnt9 hct
      have FT := Lib.hid (ft ct hct)
      have hm : T.getD ct rti0 ∈ T := by rw [getD_elem0 _ _ _ (by rw [hnt9.out]; exact hct)]; exact List.getElem_mem _
      have hg2 := hT.out _ hm
      have htq : ttQ T ct = ratX (T.getD ct rti0).1 (T.getD ct rti0).2 := rfl
      generalize T.getD ct rti0 = p at *
      obtain ⟨s, t⟩ := p
      dsimp only at hg2 htq FT
      have hrf := Lib.hid (ratF_ok (shoF_ok hg2).1)
      have hbd : Hid (dV (bodyB s).data.toList ≤ N ∧ dV t.data.toList ≤ N) := Lib.hid (by rw [hN.out]; exact sho_lt hg2)
      have hxt : Hid (ratX s t = ttQ T ct) := Lib.hid htq.symm
      obtain ⟨φp, lp, ip, ep⟩ := (Inv.start hS.out.inv.fz).frz (.cells #[.string s1, .string t1, .slice (some ⟨bc, oc, none⟩) mc cc, .int .i64 x, .int .i64 y, .int .i64 z] 76)
      have hS1 := Lib.hid (hS.out.call ip)
      have LP := Lib.hid (hle.out.trans lp)
      have L2P := Lib.hid (L3.out.trans LP.out)
      have EP := Lib.hid ep
      have hmii : (i : Int) < (mc : Int) := by omega
      have hcti : (ct : Int) < (nt : Int) := by omega
      have d9 : (wr.alloc (.cells #[.string s1, .string t1, .slice (some ⟨bc, oc, none⟩) mc cc, .int .i64 x, .int .i64 y, .int .i64 z] 76)).cell? ⟨bc, oc + i, none⟩ = some (.int .i64 (ct : Int)) := (FC.out _ (hS1.out.inv.fz.sub hS1.out.inv.le)).2
      obtain ⟨sk, hsk⟩ : ∃ s, Hid (celQ (wgtQ l) l i (ct : Int) n = s) := ⟨_, Lib.hid rfl⟩
      rw [hsk.out] at hx4
      have hsk0 : Hid (sk ≠ 0) := Lib.hid (by rw [← hsk.out]; exact celQ_pos hpos.out hjl hce2.out)
      have HX := Lib.hid (hx.mono L2P.out)
      have HX4 := Lib.hid (hx4.mono LP.out)
      have hnx : Hid (os ++ [⟨wgtQ l j * ttQ T ct / sk⟩] = (fitL id (wsL l n) l i T n (j + 1)).map (Rx.mk (N := NX) (D := DX))) := Lib.hid (by
        rw [fitL_succ, List.map_append, ← hL.out]
        show _ = os ++ [Rx.mk (fitX id (wsL l n) l i T n j)]
        unfold fitX
        rw [hce2.out, hweq.out, hsk.out, if_neg hsk0.out, Int.toNat_natCast, wsL_get hjl]; rfl)
      have hos3 : os.length ≤ 3000 := by rw [hol.out]; omega
      clear fp f2 hmc fc fw hx f6 ip ep lp hS hce hle fs f4 ft hx4 hm hg2 htq
      go_upto_region 14 with fail
      generalize wr.alloc (.cells #[.string s1, .string t1, .slice (some ⟨bc, oc, none⟩) mc cc, .int .i64 x, .int .i64 y, .int .i64 z] 76) = wz at *
      generalize wr.heap.size = b5 at *
      clear d0' d1 d2 d3 d4 d5
      have x2 : wz.cell? ⟨b5, 2, none⟩ = some (.slice (some ⟨bc, oc, none⟩) mc cc) := box_cell EP.out φp.le_refl hS1.out.inv.fz 2
      go_upto_region 15 with fail
      clear x2 d9
      have LR := Lib.hid φp.le_refl
      have HSd : Hid (OwR w φ φp 36 ao co os wz.drew) := Lib.hid (hS1.out.callB (bdrewN (Below.refl _ wz) 1))
      have hcf := Lib.hid (fun (ψ : Phi) (W : World) (hl : Hid (φp.le ψ)) (hf : Fz ψ W) => (⟨(F6.out W (hf.sub (L2P.out.trans hl.out))).1, (F6.out W (hf.sub (L2P.out.trans hl.out))).2.1, (F6.out W (hf.sub (L2P.out.trans hl.out))).2.2, (d0.out W (hf.sub (L2.out.trans (L2P.out.trans hl.out)))).2, (FT.out W (hf.sub (L2.out.trans (L2P.out.trans hl.out)))).1, (FT.out W (hf.sub (L2.out.trans (L2P.out.trans hl.out)))).2, (F4.out W (hf.sub (LP.out.trans hl.out))).1, (F4.out W (hf.sub (LP.out.trans hl.out))).2.1, (F4.out W (hf.sub (LP.out.trans hl.out))).2.2⟩ : W.cell? ⟨bw, ow + j * 3, none⟩ = some (.bool g6) ∧ W.cell? ⟨bw, ow + j * 3 + 1, none⟩ = some (.slice a6 k6 c6) ∧ W.cell? ⟨bw, ow + j * 3 + 2, none⟩ = some (.slice a7 k7 c7) ∧ W.cell? ⟨bm, om + i * 2 + 1, none⟩ = some (.slice (some ⟨bt, ot, none⟩) nt cr) ∧ W.cell? ⟨bt, ot + ct * 2, none⟩ = some (.string s) ∧ W.cell? ⟨bt, ot + ct * 2 + 1, none⟩ = some (.string t) ∧ W.cell? ⟨bs, os_ + ct * 3, none⟩ = some (.bool g4) ∧ W.cell? ⟨bs, os_ + ct * 3 + 1, none⟩ = some (.slice a4 k4 c4) ∧ W.cell? ⟨bs, os_ + ct * 3 + 2, none⟩ = some (.slice a5 k5 c5)))
      obtain ⟨xx0, xx1, xx2, xx3, xx4, xx5, xx6, xx7, xx8⟩ := hcf.out φp wz.drew LR HSd.out.inv.fz
      go_region_held_law (fun w' => w'.cell? ⟨bw, ow + j * 3, none⟩ = some (.bool g6) ∧ w'.cell? ⟨bw, ow + j * 3 + 1, none⟩ = some (.slice a6 k6 c6) ∧ w'.cell? ⟨bw, ow + j * 3 + 2, none⟩ = some (.slice a7 k7 c7) ∧ w'.cell? ⟨bm, om + i * 2 + 1, none⟩ = some (.slice (some ⟨bt, ot, none⟩) nt cr) ∧ w'.cell? ⟨bt, ot + ct * 2, none⟩ = some (.string s) ∧ w'.cell? ⟨bt, ot + ct * 2 + 1, none⟩ = some (.string t) ∧ w'.cell? ⟨bs, os_ + ct * 3, none⟩ = some (.bool g4) ∧ w'.cell? ⟨bs, os_ + ct * 3 + 1, none⟩ = some (.slice a4 k4 c4) ∧ w'.cell? ⟨bs, os_ + ct * 3 + 2, none⟩ = some (.slice a5 k5 c5)) (first | with_reducible exact ⟨xx0, xx1, xx2, xx3, xx4, xx5, xx6, xx7, xx8⟩ | with_reducible exact ⟨by assumption, by assumption, by assumption, by assumption, by assumption, by assumption, by assumption, by assumption, by assumption⟩ | with_reducible exact ⟨keepAP (by with_reducible assumption), keepAP (by with_reducible assumption), keepAP (by with_reducible assumption), keepAP (by with_reducible assumption), keepAP (by with_reducible assumption), keepAP (by with_reducible assumption), keepAP (by with_reducible assumption), keepAP (by with_reducible assumption), keepAP (by with_reducible assumption)⟩ | fail) (first
        | (refine step_appF (α := Rx NX DX) (by rfl) _ _ _ (by rfl) (slRx _ _) (SB.out.alloc _).inv ao co os (by rfl) (SB.out.alloc _).own ⟨wB.heap.size, 0, none⟩ 1 [Rx.mk (wgtQ l j * ttQ T ct / sk)] [.bool gB, .slice aB kB cB, .slice aB' kB' cB'] 1 (by rfl) (by rfl) (RepL.single HREP.out) (new_cells wB #[.bool gB, .slice aB kB cB, .slice aB' kB' cB'] 36) (by show (os.length + 1) * 56 ≤ 140737488355328; omega) ?_; intro a9 c9 w9 hi9 ho9 hg9 hf9; have HF9 := Lib.hid (And.intro hi9 ho9); obtain ⟨gg0, gg1, gg2, gg3, gg4, gg5, gg6, gg7, gg8⟩ := hcf.out φB w9 LB hi9.fz; clear hi9 ho9 hg9 hf9)
        | (go_simp; go_at_call 71; (with_reducible refine (ROver_P (OwR.sta w φ 36 ao co os) hD hM VA (Lib.hid φA.le_refl) HX4 LA hsk0 HBO hrefo SA).mono ?_); rintro e wB ⟨gB, aB, kB, cB, aB', kB', cB', φB, rfl, SB, LB0, VB⟩; have LB := Lib.hid (LA.out.trans LB0.out); have HREP : Hid (Rep.rep φB (⟨wgtQ l j * ttQ T ct / sk⟩ : Rx NX DX) [.bool gB, .slice aB kB cB, .slice aB' kB' cB']) := Lib.hid ⟨gB, aB, kB, cB, aB', kB', cB', rfl, VB.out⟩; obtain ⟨ee0, ee1, ee2, ee3, ee4, ee5, ee6, ee7, ee8⟩ := hcf.out φB wB LB SB.out.inv.fz)
        | (go_simp; go_at_call 70; (with_reducible refine (RTimes_P (OwR.sta w φ 36 ao co os) hD hM HX L0 V0 (Lib.hid φ0.le_refl) HBT hrefl S0).mono ?_); rintro e wA ⟨gA, aA, kA, cA, aA', kA', cA', φA, rfl, SA, LA0, VA⟩; have LA := Lib.hid (L0.out.trans LA0.out); obtain ⟨dd0, dd1, dd2, dd3, dd4, dd5, dd6, dd7, dd8⟩ := hcf.out φA wA LA SA.out.inv.fz)
        | (go_simp; go_at_call 12; (with_reducible refine (RFracOf_P (OwR.sta w φ 36 ao co os) hrf hxt hbd HSd).mono ?_); rintro e w0 ⟨g0, a0, k0, c0, a0', k0', c0', φ0, rfl, S0, L0, V0⟩; obtain ⟨cc0, cc1, cc2, cc3, cc4, cc5, cc6, cc7, cc8⟩ := hcf.out φ0 w0 L0 S0.out.inv.fz)
        | fail)
      all_goals
        go_wp2
        go_roundw
        case rel => exact ⟨j + 1, a9, c9, os ++ [⟨wgtQ l j * ttQ T ct / sk⟩], φB, by omega, by go_num, by rw [List.length_append]; rfl, Lib.hid (by rw [List.length_append, hol.out]; rfl), hnx, Lib.hid (LP.out.trans LB.out), Lib.hid ⟨HF9.out.1, HF9.out.2⟩⟩
        case measure => (simp [intOf] <;> omega)
    · obtain rfl : j = n := by omega
      obtain ⟨φ4, hl4, hi4, hs4, _⟩ := hS.out.own.release hS.out.inv
      rw [hL.out] at hs4
      have HI4 := Lib.hid hi4
      have HS4 := Lib.hid hs4
      have HP4 := Lib.hid (HP.out.mono hi4.le)
      have hfl : Hid ((fitL id (wsL l j) l i T j j).length = j) := Lib.hid fitL_len
      clear hi4 hs4 hS hl4
      rw [hol.out]
      go_wp2_with (go_at_call 54; (with_reducible refine (Rshut_any hD hM hNXM hDXM HI4.out.fz HP4.out HS4.out hfl hn3 HQ).mono ?_); rintro e w9 ⟨aR, cR, φR, rfl, hiR, hsR⟩; have HIR := Lib.hid (HI4.out.call hiR); have HSR := Lib.hid hsR; clear hiR hsR)
      go_ret2
      exact ⟨aR, cR, φR, rfl, HIR.out, HSR.out⟩
end Go.Proofs.YtmlpjffnmkndoaaGreatDoor

namespace Go.Proofs.YtmlpjffnmkndoaaGreatDoor
open Go.RowKit
set_option linter.unusedVariables false
set_option linter.unusedSimpArgs false
theorem ftB_ten {M K n N : Nat} (hN : Hid (N = 1000000000000)) (hK : Hid (10 ^ K ≤ M)) (hK2 : 150000 ≤ K) (hn : n ≤ 3000) : FtB M N N n N := by
  have h1 : N ≤ 10 ^ 12 := by rw [hN.out]; decide
  have h0 : n ≤ 10 ^ 4 := by have : (10 : Nat) ^ 4 = 10000 := by decide
                             omega
  obtain ⟨m, hm⟩ : ∃ m, m = 3000 := ⟨_, rfl⟩
  rw [← hm] at hn
  have h3 := ten_pow h1 hn
  have h5 := ten_mul (ten_mul h0 h1) h3
  have fin : ∀ {a i : Nat}, a ≤ 10 ^ i → i ≤ K → a ≤ M := fun h hi => Nat.le_trans (ten_le h hi) hK.out
  exact ⟨fin h5 (by omega), fin h3 (by omega), fin (ten_mul h1 h3) (by omega), fin (ten_mul h1 h5) (by omega), fin (ten_mul h1 (ten_mul h1 h3)) (by omega), fin (ten_mul h1 (ten_mul h1 h5)) (by omega), fin h1 (by omega), fin (ten_mul h1 h1) (by omega), fin (ten_mul h1 h1) (by omega), fin h1 (by omega)⟩
theorem ftB_p {K n N : Nat} (hN : Hid (N = 1000000000000)) (hK2 : 150000 ≤ K) (hn : n ≤ 3000) : FtB (p10 K) N N n N := ftB_ten (K := K) hN (Lib.hid (Nat.le_refl _)) hK2 hn
set_option maxRecDepth 100000 in
set_option maxHeartbeats 1000000 in
theorem post_core {M : Nat} (hM : LenB M) (hD : Hid (DivOk M)) (hRD : Hid (RdivOk M)) (hM2 : p10 2000 ≤ M) {N : Nat} (hN : Hid (N = 1000000000000)) {mm : List Mgn} {nm cm : Nat} {am : Option Addr} {n : Nat} (hB : Hid (n ≤ 3000 → FtB M N N n N)) {a : Option Addr} {cap : Nat} {l : List Psn} {mi : Int} (hmi : IsI64 mi) {w : World} {φ : Phi} (hφ : Fz φ w) (htp : TabP φ) (hp : PowP φ) (sm : SlV φ am cm mm) (hnm : Hid (mm.length = nm)) (hgm : Hid (∀ x ∈ mm, MgnG x)) (sl : SlV φ a cap l) (hn : Hid (l.length = n)) (hsz : Hid (∀ p ∈ l, PsnG p)) :
    Calls Tryz.prog 6 #[.slice am nm cm, .slice a n cap, .int .i64 mi] w (fun e w' => e = .returned (.bool true) ∧ Below w.heap.size w w') := by
  obtain ⟨L, hL⟩ : ∃ L, (pstR mm l mi).1 = L := ⟨_, rfl⟩
  obtain ⟨F, hF⟩ : ∃ F, (pstR mm l mi).2 = F := ⟨_, rfl⟩
  have hR : Hid (pstR mm l mi = (L, F)) := Lib.hid (by rw [← hL, ← hF])
  obtain ⟨m, hm⟩ : ∃ m, Hid (L.length = m) := ⟨_, Lib.hid rfl⟩
  have hFF : (F == F) = true := by simp
  have HI := Lib.hid (Inv.start hφ)
  have HS := Lib.hid sl
  have HM := Lib.hid sm
  have HP := Lib.hid hp
  have HTP := Lib.hid htp
  have hmi2 : -9223372036854775808 ≤ mi ∧ mi ≤ 9223372036854775807 := hmi
  clear hL hF hφ hp htp sl sm
  go_enter Tryz.func6, Tryz.ntmps6
  go_wp2_with (first
    | (go_at_call 27; (with_reducible refine (EqualR_same m _ _ L _ _ _ _ I2.out.fz (S1.out.mono L2.out) hm hm9 S2.out).mono ?_); rintro e w3 ⟨rfl, hb3⟩; have I3 := Lib.hid (I2.out.callB hb3); clear hb3)
    | (go_at_call 26; (with_reducible refine (RPost_any hRD hM hM2 hN hB I1.out.fz (HP.out.mono I1.out.le) (HTP.out.mono I1.out.le) (HM.out.mono I1.out.le) hnm hgm (HS.out.mono I1.out.le) hn hsz hmi2 hR).mono ?_); rintro e w2 ⟨a2, c2, φ2, rfl, hi2, s2⟩; rw [show (L, F).1.length = m from hm.out]; have I2 := Lib.hid (I1.out.call hi2); have L2 := Lib.hid hi2.le; have S2 := Lib.hid s2; clear hi2 s2)
    | (go_at_call 8; (with_reducible refine (Post_any hD hM hM2 hN hB HI.out.fz HP.out HM.out hnm hgm HS.out hn hsz hmi2 hR).mono ?_); rintro e w1 ⟨a1, c1, φ1, rfl, hi1, s1⟩; rw [show (L, F).1.length = m from hm.out]; have I1 := Lib.hid (HI.out.call hi1); have S1 := Lib.hid s1; have hm9 : m ≤ 9223372036854775807 := (by rw [← hm.out]; have h1 := s1.capn; have h2 := s1.capm; unfold maxLen at h2; simp only at h1; omega); clear hi1 s1))
  go_ret
  exact ⟨rfl, I3.out.bel⟩
theorem weightPostMatchesSpec_walk (w : World) (φ : Phi) (hφ : Fz φ w) (hp : PowP φ) (htp : TabP φ) (am : Option Addr) (cm : Nat) (ms : List Mgn) (sm : SlV φ am cm ms) (gm : ms.length * Tryz.prog.bytesOf 30 ≤ reachBytes ∧ ∀ x ∈ ms, GMgn x) (a : Option Addr) (cap : Nat) (xs : List Psn) (s : SlV φ a cap xs) (g : xs.length * Tryz.prog.bytesOf 76 ≤ reachBytes ∧ ∀ x ∈ xs, GPsnR x) (mi : Int) (gmi : IsI64 mi) :
    Calls Tryz.prog 6 #[.slice am ms.length cm, .slice a xs.length cap, .int .i64 mi] w fun e w' => e = .returned (.bool true) ∧ Below w.heap.size w w' :=
  have hM := lenB_p (j := 200000) (k := 22223) (by decide) (by decide)
  post_core hM (Lib.hid (div_any hM)) (Lib.hid (Rdiv_any hM)) (p10_leP (by decide)) (Lib.hid rfl) (Lib.hid (fun h => ftB_p (Lib.hid rfl) (by decide) h)) gmi hφ htp hp sm (Lib.hid rfl) (Lib.hid (mgnG_of gm.2)) s (Lib.hid rfl) (Lib.hid (psnG_ofR g.2))
end Go.Proofs.YtmlpjffnmkndoaaGreatDoor
