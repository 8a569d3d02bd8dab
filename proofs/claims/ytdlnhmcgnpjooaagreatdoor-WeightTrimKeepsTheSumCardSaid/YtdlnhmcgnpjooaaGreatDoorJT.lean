/- The plain law of trimmed weights. The state of a call with a box, a row of numbers and a row of marks of its own. The walk of the program's take. The walk of the program's spread. The walk of the program's spread. The walk of the program's Trim. Conditions: the library's table of powers of ten reads as it was laid. Conditions: none beyond what the claim form gives. -/
import Derived.Test.YtdlnhmcgnpjooaaGreatDoorJY
import Derived.Test.YtdlnhmcgnpjooaaGreatDoorJX
import Derived.Deep.OwnRows
import Derived.Test.YtdlnhmcgnpjooaaGreatDoorPD
import Derived.Outline
import Derived.Test.YtdlnhmcgnpjooaaGreatDoorJ26
import Derived.Test.YtdlnhmcgnpjooaaGreatDoorJP
import Derived.OwnWalk
namespace Go.Proofs.YtdlnhmcgnpjooaaGreatDoor
open Go.RowKit
set_option linter.unusedVariables false
set_option linter.unusedSimpArgs false
theorem cmpQ_pos {x y : Rat} : 0 < cmpQ x y ↔ y < x := by
  unfold cmpQ
  by_cases h1 : x < y
  · rw [if_pos h1]
    exact ⟨fun h => absurd h (by decide), fun h => absurd h (Rat.not_lt.2 (Rat.le_of_lt h1))⟩
  · rw [if_neg h1]
    by_cases h2 : x = y
    · rw [if_pos h2]
      exact ⟨fun h => absurd h (by decide), fun h => absurd (h2 ▸ h : y < y) (Rat.lt_irrefl)⟩
    · rw [if_neg h2]
      exact ⟨fun _ => by grind, fun _ => by decide⟩
theorem cmpQ_neg {x y : Rat} : cmpQ x y < 0 ↔ x < y := by
  unfold cmpQ
  by_cases h1 : x < y
  · rw [if_pos h1]; exact ⟨fun _ => h1, fun _ => by decide⟩
  · rw [if_neg h1]
    by_cases h2 : x = y
    · rw [if_pos h2]; exact ⟨fun h => absurd h (by decide), fun h => absurd h h1⟩
    · rw [if_neg h2]; exact ⟨fun h => absurd h (by decide), fun h => absurd h h1⟩
theorem sumF_le {f g : Nat → Rat} : ∀ {n : Nat}, (∀ i, i < n → f i ≤ g i) → sumF f n ≤ sumF g n
  | 0, _ => Rat.le_refl
  | n + 1, h => by
    show sumF f n + f n ≤ sumF g n + g n
    have h1 := sumF_le (n := n) (fun i hi => h i (by omega))
    have h2 := h n (by omega)
    grind
theorem sumF_lt {f g : Nat → Rat} : ∀ {n k : Nat}, (∀ i, i < n → f i ≤ g i) → k < n → f k < g k → sumF f n < sumF g n
  | n + 1, k, h, hk, hl => by
    show sumF f n + f n < sumF g n + g n
    have h2 := h n (by omega)
    by_cases e : k = n
    · subst e
      have h1 := sumF_le (f := f) (g := g) (n := k) (fun i hi => h i (by omega))
      grind
    · have h1 := sumF_lt (n := n) (k := k) (fun i hi => h i (by omega)) (by omega) hl
      grind
theorem sumF_zero : ∀ n, sumF (fun _ => 0) n = 0
  | 0 => rfl
  | n + 1 => by show sumF (fun _ => 0) n + 0 = 0; rw [sumF_zero n, Rat.add_zero]
/-- How many of the first are marked. -/
def cntN (c : List Bool) : Nat → Nat
  | 0 => 0
  | k + 1 => if c.getD k false then cntN c k + 1 else cntN c k
theorem cntN_le (c : List Bool) : ∀ n, cntN c n ≤ n
  | 0 => Nat.le_refl _
  | n + 1 => by
    have := cntN_le c n
    show (if c.getD n false then cntN c n + 1 else cntN c n) ≤ n + 1
    split <;> omega
theorem getD_set (c : List Bool) (i k : Nat) (h : i < c.length) : (c.set i true).getD k false = if k = i then true else c.getD k false := by
  simp only [List.getD_eq_getElem?_getD, List.getElem?_set]
  by_cases e : k = i
  · subst e; simp [h]
  · rw [if_neg (Ne.symm e), if_neg e]
theorem cntN_set_ge {c : List Bool} {i : Nat} (h : i < c.length) : ∀ {k : Nat}, k ≤ i → cntN (c.set i true) k = cntN c k
  | 0, _ => rfl
  | k + 1, hk => by
    show (if (c.set i true).getD k false then cntN (c.set i true) k + 1 else cntN (c.set i true) k) = if c.getD k false then cntN c k + 1 else cntN c k
    rw [getD_set c i k h, if_neg (show ¬ k = i by omega), cntN_set_ge h (by omega)]
theorem cntN_set {c : List Bool} {i : Nat} (h : i < c.length) (h0 : c.getD i false = false) : ∀ {k : Nat}, i < k → cntN (c.set i true) k = cntN c k + 1
  | k + 1, hk => by
    show (if (c.set i true).getD k false then cntN (c.set i true) k + 1 else cntN (c.set i true) k) = (if c.getD k false then cntN c k + 1 else cntN c k) + 1
    rw [getD_set c i k h]
    by_cases e : k = i
    · subst e
      rw [if_pos rfl, if_pos rfl, h0, cntN_set_ge h (Nat.le_refl _)]; rfl
    · rw [if_neg e, cntN_set h h0 (by omega)]
      split <;> rfl
/-- A pass: those above the bound are marked, up to the k-th. -/
def tkL (w : Nat → Rat) (b : Rat) (c : List Bool) : Nat → List Bool
  | 0 => c
  | k + 1 => if (tkL w b c k).getD k false = false ∧ b < w k then (tkL w b c k).set k true else tkL w b c k
def tkA (w : Nat → Rat) (b : Rat) (c : List Bool) : Nat → Bool
  | 0 => false
  | k + 1 => if (tkL w b c k).getD k false = false ∧ b < w k then true else tkA w b c k
section
variable {w : Nat → Rat} {b : Rat} {c : List Bool}
theorem tkL_len : ∀ k, (tkL w b c k).length = c.length
  | 0 => rfl
  | k + 1 => by
    show (if (tkL w b c k).getD k false = false ∧ b < w k then (tkL w b c k).set k true else tkL w b c k).length = _
    split
    · rw [List.length_set, tkL_len k]
    · exact tkL_len k
theorem tkL_get : ∀ {k : Nat}, k ≤ c.length → ∀ i, ((tkL w b c k).getD i false = true ↔ c.getD i false = true ∨ (i < k ∧ b < w i))
  | 0, _, i => by
    show c.getD i false = true ↔ _
    simp
  | k + 1, hk, i => by
    have ih := tkL_get (k := k) (by omega)
    show (if (tkL w b c k).getD k false = false ∧ b < w k then (tkL w b c k).set k true else tkL w b c k).getD i false = true ↔ _
    by_cases h : (tkL w b c k).getD k false = false ∧ b < w k
    · rw [if_pos h, getD_set _ _ _ (by rw [tkL_len]; omega)]
      by_cases e : i = k
      · subst e
        rw [if_pos rfl]
        exact ⟨fun _ => .inr ⟨by omega, h.2⟩, fun _ => rfl⟩
      · rw [if_neg e, ih i]
        constructor
        · rintro (h1 | ⟨h1, h2⟩)
          · exact .inl h1
          · exact .inr ⟨by omega, h2⟩
        · rintro (h1 | ⟨h1, h2⟩)
          · exact .inl h1
          · exact .inr ⟨by omega, h2⟩
    · rw [if_neg h, ih i]
      constructor
      · rintro (h1 | ⟨h1, h2⟩)
        · exact .inl h1
        · exact .inr ⟨by omega, h2⟩
      · rintro (h1 | ⟨h1, h2⟩)
        · exact .inl h1
        · by_cases e : i = k
          · subst e
            have h3 : ¬ (tkL w b c i).getD i false = false := fun h4 => h ⟨h4, h2⟩
            rw [Bool.not_eq_false, ih i] at h3
            exact h3
          · exact .inr ⟨by omega, h2⟩
/-- Nothing marked: the marks stay, and nobody is above the bound. -/
theorem tkA_no : ∀ {k : Nat}, tkA w b c k = false → tkL w b c k = c ∧ ∀ i, i < k → c.getD i false = false → ¬ b < w i
  | 0, _ => ⟨rfl, fun i hi => absurd hi (Nat.not_lt_zero i)⟩
  | k + 1, h => by
    have h' : (if (tkL w b c k).getD k false = false ∧ b < w k then true else tkA w b c k) = false := h
    by_cases hc : (tkL w b c k).getD k false = false ∧ b < w k
    · rw [if_pos hc] at h'; exact absurd h' (by decide)
    · rw [if_neg hc] at h'
      obtain ⟨h1, h2⟩ := tkA_no h'
      refine ⟨?_, fun i hi hn => ?_⟩
      · show (if (tkL w b c k).getD k false = false ∧ b < w k then (tkL w b c k).set k true else tkL w b c k) = c
        rw [if_neg hc]; exact h1
      · by_cases e : i = k
        · subst e; rw [h1] at hc; exact fun hb => hc ⟨hn, hb⟩
        · exact h2 i (by omega) hn
theorem tkA_cnt {n : Nat} (hn : c.length = n) : ∀ {k : Nat}, k ≤ n → cntN c n ≤ cntN (tkL w b c k) n ∧ (tkA w b c k = true → cntN c n < cntN (tkL w b c k) n)
  | 0, _ => ⟨Nat.le_refl _, fun h => Bool.noConfusion (show false = true from h)⟩
  | k + 1, hk => by
    obtain ⟨h1, h2⟩ := tkA_cnt hn (k := k) (by omega)
    show cntN c n ≤ cntN (if (tkL w b c k).getD k false = false ∧ b < w k then (tkL w b c k).set k true else tkL w b c k) n ∧ ((if (tkL w b c k).getD k false = false ∧ b < w k then true else tkA w b c k) = true → cntN c n < cntN (if (tkL w b c k).getD k false = false ∧ b < w k then (tkL w b c k).set k true else tkL w b c k) n)
    by_cases hc : (tkL w b c k).getD k false = false ∧ b < w k
    · rw [if_pos hc, if_pos hc, cntN_set (by rw [tkL_len]; omega) hc.1 (by omega)]
      exact ⟨by omega, fun _ => by omega⟩
    · rw [if_neg hc, if_neg hc]
      exact ⟨h1, h2⟩
theorem tk_yes {k : Nat} (h1 : (tkL w b c k).getD k false = false) (h2 : b < w k) : tkL w b c (k + 1) = (tkL w b c k).set k true ∧ tkA w b c (k + 1) = true := by
  constructor
  · show (if (tkL w b c k).getD k false = false ∧ b < w k then (tkL w b c k).set k true else tkL w b c k) = _
    rw [if_pos ⟨h1, h2⟩]
  · show (if (tkL w b c k).getD k false = false ∧ b < w k then true else tkA w b c k) = _
    rw [if_pos ⟨h1, h2⟩]
theorem tk_no {k : Nat} (h : ¬ ((tkL w b c k).getD k false = false ∧ b < w k)) : tkL w b c (k + 1) = tkL w b c k ∧ tkA w b c (k + 1) = tkA w b c k := by
  constructor
  · show (if (tkL w b c k).getD k false = false ∧ b < w k then (tkL w b c k).set k true else tkL w b c k) = _
    rw [if_neg h]
  · show (if (tkL w b c k).getD k false = false ∧ b < w k then true else tkA w b c k) = _
    rw [if_neg h]
end
/-- The sum of all weights; the bound; the sum of those that are not marked; what is left; a trimmed weight. -/
noncomputable def totQ (l : List Psn) : Rat := sumF (wgtQ l) l.length
noncomputable def bndQ (l : List Psn) (m : Rat) : Rat := m * totQ l / ((l.length : Int) : Rat)
noncomputable def rstF (l : List Psn) (c : List Bool) (i : Nat) : Rat := if c.getD i false then 0 else wgtQ l i
noncomputable def rstQ (l : List Psn) (c : List Bool) : Rat := sumF (rstF l c) l.length
noncomputable def lftQ (l : List Psn) (m : Rat) (c : List Bool) : Rat := totQ l - bndQ l m * ((cntN c l.length : Int) : Rat)
noncomputable def trmX (l : List Psn) (m : Rat) (c : List Bool) (i : Nat) : Rat := if c.getD i false then bndQ l m else wgtQ l i * (lftQ l m c) / rstQ l c
noncomputable def trS (l : List Psn) (m : Rat) : Nat → List Bool
  | 0 => List.replicate l.length false
  | r + 1 => tkL (trmX l m (trS l m r)) (bndQ l m) (trS l m r) l.length
noncomputable def trC (l : List Psn) (m : Rat) : List Bool := trS l m l.length
/-- Trim: the ratios, how many are marked, the error. -/
noncomputable def trmR (l : List Psn) (s t : ByteArray) : List Rti × Int × Int :=
  if pplF l ≠ 0 then ([], 0, pplF l) else if shoF s t ≠ 0 then ([], 0, shoF s t) else if ratX s t < 1 then ([], 0, 1) else if l.length = 0 then ([], 0, 0)
  else if (shtR ((List.range l.length).map (trmX l (ratX s t) (trC l (ratX s t))))).2 ≠ 0 then ([], 0, (shtR ((List.range l.length).map (trmX l (ratX s t) (trC l (ratX s t))))).2)
  else ((shtR ((List.range l.length).map (trmX l (ratX s t) (trC l (ratX s t))))).1, (cntN (trC l (ratX s t)) l.length : Int), 0)
section
variable {l : List Psn} {m : Rat}
theorem trS_len : ∀ r, (trS l m r).length = l.length
  | 0 => List.length_replicate ..
  | r + 1 => by show (tkL _ _ (trS l m r) l.length).length = _; rw [tkL_len, trS_len r]
theorem trS_fix {r : Nat} (h : trS l m (r + 1) = trS l m r) : ∀ q, trS l m (r + q) = trS l m r
  | 0 => rfl
  | q + 1 => by
    have ih := trS_fix h q
    show tkL (trmX l m (trS l m (r + q))) (bndQ l m) (trS l m (r + q)) l.length = _
    rw [ih]; exact h
theorem trC_fix {r : Nat} (hr : r ≤ l.length) (h : tkA (trmX l m (trS l m r)) (bndQ l m) (trS l m r) l.length = false) : trC l m = trS l m r := by
  have := trS_fix (l := l) (m := m) (r := r) (tkA_no h).1 (l.length - r)
  rw [show r + (l.length - r) = l.length by omega] at this
  exact this
theorem trS_cnt {r : Nat} (hr : r ≤ cntN (trS l m r) l.length) (h : tkA (trmX l m (trS l m r)) (bndQ l m) (trS l m r) l.length = true) : r + 1 ≤ cntN (trS l m (r + 1)) l.length := by
  have := (tkA_cnt (w := trmX l m (trS l m r)) (b := bndQ l m) (trS_len (l := l) (m := m) r) (Nat.le_refl l.length)).2 h
  show r + 1 ≤ cntN (tkL (trmX l m (trS l m r)) (bndQ l m) (trS l m r) l.length) l.length
  omega
theorem cntN_zero (n : Nat) : ∀ k, cntN (List.replicate n false) k = 0
  | 0 => rfl
  | k + 1 => by
    show (if (List.replicate n false).getD k false then _ else _) = 0
    rw [show (List.replicate n false).getD k false = false by
      simp only [List.getD_eq_getElem?_getD, List.getElem?_replicate]; split <;> rfl]
    exact cntN_zero n k
theorem rep_no (n k : Nat) : (List.replicate n false).getD k false = false := by
  simp only [List.getD_eq_getElem?_getD, List.getElem?_replicate]; split <;> rfl
theorem rst_zero : rstQ l (List.replicate l.length false) = totQ l :=
  sumF_congr (fun i _ => by unfold rstF; rw [rep_no]; rfl)
/-- At first all have their own weights. -/
theorem trm_zero (ht : totQ l ≠ 0) (i : Nat) : trmX l m (List.replicate l.length false) i = wgtQ l i := by
  unfold trmX lftQ
  rw [rep_no, rst_zero, cntN_zero]
  show wgtQ l i * (totQ l - bndQ l m * 0) / totQ l = wgtQ l i
  rw [show totQ l - bndQ l m * 0 = totQ l by grind, Rat.div_def, Rat.mul_assoc, Rat.mul_inv_cancel _ ht, Rat.mul_one]
theorem rstF_yes {c : List Bool} {k : Nat} (h : c.getD k false = true) : sumF (rstF l c) (k + 1) = sumF (rstF l c) k := by
  show sumF (rstF l c) k + rstF l c k = _
  have e : rstF l c k = 0 := by unfold rstF; rw [if_pos h]
  rw [e, Rat.add_zero]
theorem rstF_no {c : List Bool} {k : Nat} (h : c.getD k false = false) : sumF (rstF l c) (k + 1) = sumF (rstF l c) k + wgtQ l k := by
  show sumF (rstF l c) k + rstF l c k = _
  have e : rstF l c k = wgtQ l k := by unfold rstF; rw [h]; rfl
  rw [e]
theorem cut_sum (c : List Bool) (b f : Rat) : ∀ n, sumF (fun i => if c.getD i false then b else wgtQ l i * f) n = b * ((cntN c n : Int) : Rat) + sumF (rstF l c) n * f
  | 0 => by show (0 : Rat) = b * ((0 : Int) : Rat) + 0 * f; grind
  | n + 1 => by
    show sumF (fun i => if c.getD i false then b else wgtQ l i * f) n + (if c.getD n false then b else wgtQ l n * f) = _
    rw [cut_sum c b f n]
    by_cases h : c.getD n false = true
    · rw [if_pos h, rstF_yes h]
      have e : cntN c (n + 1) = cntN c n + 1 := by show (if c.getD n false then _ else _) = _; rw [if_pos h]
      rw [e, show (((cntN c n + 1 : Nat) : Int) : Rat) = ((cntN c n : Int) : Rat) + 1 by rw [Int.natCast_add, Rat.intCast_add]; rfl]
      grind
    · have h' : c.getD n false = false := by simpa using h
      rw [if_neg h, rstF_no h']
      have e : cntN c (n + 1) = cntN c n := by show (if c.getD n false then _ else _) = _; rw [if_neg h]
      rw [e]
      grind
theorem rst_pos {c : List Bool} (hw : ∀ j, j < l.length → 0 < wgtQ l j) {k : Nat} (hk : k < l.length) (h : c.getD k false = false) : 0 < rstQ l c := by
  have h1 := sumF_lt (f := fun _ => 0) (g := rstF l c) (n := l.length) (k := k) (fun i hi => by
    show (0 : Rat) ≤ rstF l c i
    unfold rstF
    split
    · exact Rat.le_refl
    · exact Rat.le_of_lt (hw i hi)) hk (by
    show (0 : Rat) < rstF l c k
    unfold rstF; rw [h]; exact hw k hk)
  rw [sumF_zero] at h1
  exact h1
theorem rst_ex {c : List Bool} : ∀ {n : Nat}, (∀ i, i < n → c.getD i false = true) → sumF (rstF l c) n = 0
  | 0, _ => rfl
  | n + 1, h => by rw [rstF_yes (h n (by omega)), rst_ex (fun i hi => h i (by omega))]
theorem cnt_all {c : List Bool} : ∀ {n : Nat}, (∀ i, i < n → c.getD i false = true) → cntN c n = n
  | 0, _ => rfl
  | n + 1, h => by
    show (if c.getD n false then _ else _) = _
    rw [if_pos (h n (by omega)), cnt_all (fun i hi => h i (by omega))]
theorem tot_pos (hw : ∀ j, j < l.length → 0 < wgtQ l j) (hn : 0 < l.length) : 0 < totQ l := by
  have := rst_pos (c := List.replicate l.length false) hw hn (rep_no _ _)
  rw [rst_zero] at this
  exact this
/-- What holds of the marks in all passes. -/
structure TrG (l : List Psn) (m : Rat) (c : List Bool) : Prop where
  up : ∀ i j, i < l.length → j < l.length → c.getD i false = true → wgtQ l i ≤ wgtQ l j → c.getD j false = true
  rest : 0 < rstQ l c
  left : 0 < lftQ l m c
theorem TrG.start (hw : ∀ j, j < l.length → 0 < wgtQ l j) (hn : 0 < l.length) : TrG l m (List.replicate l.length false) where
  up := fun i j _ _ h => by rw [rep_no] at h; exact absurd h (by decide)
  rest := by rw [rst_zero]; exact tot_pos hw hn
  left := by
    unfold lftQ
    rw [cntN_zero]
    show 0 < totQ l - bndQ l m * 0
    have := tot_pos hw hn
    grind
theorem bnd_n (hn : 0 < l.length) : bndQ l m * ((l.length : Int) : Rat) = m * totQ l := by
  unfold bndQ
  exact Rat.div_mul_cancel (by
    intro e
    have : (l.length : Int) = 0 := by exact_mod_cast e
    omega)
theorem TrG.sum {c : List Bool} (h : TrG l m c) : sumF (trmX l m c) l.length = totQ l := by
  have e : sumF (trmX l m c) l.length = sumF (fun i => if c.getD i false then bndQ l m else wgtQ l i * (lftQ l m c / rstQ l c)) l.length := sumF_congr (fun i _ => by
    show trmX l m c i = if c.getD i false then bndQ l m else wgtQ l i * (lftQ l m c / rstQ l c)
    unfold trmX
    rw [Rat.div_def, Rat.div_def, Rat.mul_assoc])
  rw [e, cut_sum]
  have h0 : rstQ l c ≠ 0 := fun e => by have := h.rest; rw [e] at this; exact absurd this (Rat.lt_irrefl)
  have h1 : sumF (rstF l c) l.length * (lftQ l m c / rstQ l c) = lftQ l m c := by
    show rstQ l c * (lftQ l m c / rstQ l c) = _
    rw [Rat.mul_comm, Rat.div_mul_cancel h0]
  rw [h1]
  unfold lftQ
  grind
theorem TrG.fac {c : List Bool} (h : TrG l m c) : 0 < lftQ l m c / rstQ l c := by
  rw [Rat.div_def]
  exact Rat.mul_pos h.left (Rat.inv_pos.2 h.rest)
theorem trm_no {c : List Bool} {i : Nat} (h : c.getD i false = false) : trmX l m c i = wgtQ l i * (lftQ l m c / rstQ l c) := by
  unfold trmX
  rw [h, Rat.div_def, Rat.div_def, ← Rat.mul_assoc]; rfl
theorem trm_yes {c : List Bool} {i : Nat} (h : c.getD i false = true) : trmX l m c i = bndQ l m := by
  unfold trmX; rw [if_pos h]
theorem TrG.step (hw : ∀ j, j < l.length → 0 < wgtQ l j) (hn : 0 < l.length) (hm : 1 ≤ m) {c : List Bool} (hl : c.length = l.length) (h : TrG l m c) : TrG l m (tkL (trmX l m c) (bndQ l m) c l.length) := by
  have hg := tkL_get (w := trmX l m c) (b := bndQ l m) (c := c) (k := l.length) (by rw [hl]; exact Nat.le_refl _)
  generalize tkL (trmX l m c) (bndQ l m) c l.length = d at *
  have hf := h.fac
  have hle : ∀ i, i < l.length → (if d.getD i false then bndQ l m else wgtQ l i * (lftQ l m c / rstQ l c)) ≤ trmX l m c i := fun i hi => by
    by_cases e : d.getD i false = true
    · rw [if_pos e]
      by_cases e2 : c.getD i false = true
      · rw [trm_yes e2]; exact Rat.le_refl
      · rcases (hg i).1 e with e3 | e3
        · exact absurd e3 e2
        · exact Rat.le_of_lt e3.2
    · rw [if_neg e]
      have e2 : c.getD i false = false := by
        cases hc : c.getD i false
        · rfl
        · exact absurd ((hg i).2 (.inl hc)) e
      rw [trm_no e2]; exact Rat.le_refl
  have hs := sumF_le hle
  rw [h.sum, cut_sum] at hs
  have hex : ∃ k, k < l.length ∧ d.getD k false = false := by
    refine Classical.byContradiction fun hno => ?_
    have hall : ∀ i, i < l.length → d.getD i false = true := fun i hi => by
      cases hd : d.getD i false
      · exact absurd ⟨i, hi, hd⟩ hno
      · rfl
    have hcx : ∃ k, k < l.length ∧ c.getD k false = false := by
      refine Classical.byContradiction fun hno2 => ?_
      have := rst_ex (l := l) (c := c) (n := l.length) (fun i hi => by
        cases hd : c.getD i false
        · exact absurd ⟨i, hi, hd⟩ hno2
        · rfl)
      have h1 := h.rest
      unfold rstQ at h1
      rw [this] at h1
      exact absurd h1 (Rat.lt_irrefl)
    obtain ⟨k, hk, hck⟩ := hcx
    have hlt := sumF_lt hle hk (by
      rw [if_pos (hall k hk)]
      rcases (hg k).1 (hall k hk) with e3 | e3
      · rw [hck] at e3; exact absurd e3 (by decide)
      · exact e3.2)
    rw [h.sum, cut_sum, cnt_all hall, rst_ex hall, bnd_n hn] at hlt
    have ht := tot_pos hw hn
    have : totQ l ≤ m * totQ l := by
      have := Rat.mul_le_mul_of_nonneg_right hm (Rat.le_of_lt ht)
      rwa [Rat.one_mul] at this
    grind
  obtain ⟨k, hk, hdk⟩ := hex
  have hr := rst_pos hw hk hdk
  refine ⟨fun i j hi hj hd hij => ?_, hr, ?_⟩
  · refine (hg j).2 ?_
    rcases (hg i).1 hd with e | ⟨_, e⟩
    · exact .inl (h.up i j hi hj e hij)
    · by_cases ej : c.getD j false = true
      · exact .inl ej
      · have ej : c.getD j false = false := by simpa using ej
        by_cases ei : c.getD i false = true
        · exact .inl (h.up i j hi hj ei hij)
        · have ei : c.getD i false = false := by simpa using ei
          refine .inr ⟨hj, ?_⟩
          rw [trm_no ei] at e
          rw [trm_no ej]
          have := Rat.mul_le_mul_of_nonneg_right hij (Rat.le_of_lt hf)
          grind
  · have h1 : 0 < sumF (rstF l d) l.length * (lftQ l m c / rstQ l c) := Rat.mul_pos hr hf
    unfold lftQ at *
    grind
theorem trS_good (hw : ∀ j, j < l.length → 0 < wgtQ l j) (hn : 0 < l.length) (hm : 1 ≤ m) : ∀ r, TrG l m (trS l m r)
  | 0 => TrG.start hw hn
  | r + 1 => (trS_good hw hn hm r).step hw hn hm (trS_len r)
/-- At the end nobody is above the bound, and the order stays. -/
theorem trm_le {c : List Bool} (h : tkA (trmX l m c) (bndQ l m) c l.length = false) {i : Nat} (hi : i < l.length) : trmX l m c i ≤ bndQ l m := by
  by_cases e : c.getD i false = true
  · rw [trm_yes e]; exact Rat.le_refl
  · exact Rat.not_lt.1 ((tkA_no h).2 i hi (by simpa using e))
theorem TrG.mono {c : List Bool} (hg : TrG l m c) (h : tkA (trmX l m c) (bndQ l m) c l.length = false) {i j : Nat} (hi : i < l.length) (hj : j < l.length) (hij : wgtQ l i ≤ wgtQ l j) : trmX l m c i ≤ trmX l m c j := by
  by_cases ej : c.getD j false = true
  · rw [trm_yes ej]; exact trm_le h hi
  · by_cases ei : c.getD i false = true
    · exact absurd (hg.up i j hi hj ei hij) ej
    · have ej : c.getD j false = false := by simpa using ej
      have ei : c.getD i false = false := by simpa using ei
      rw [trm_no ei, trm_no ej]
      exact Rat.mul_le_mul_of_nonneg_right hij (Rat.le_of_lt hg.fac)
theorem TrG.order {c : List Bool} (hg : TrG l m c) (h : tkA (trmX l m c) (bndQ l m) c l.length = false) {i j : Nat} (hi : i < l.length) (hj : j < l.length) : 0 ≤ cmpQ (wgtQ l i) (wgtQ l j) * cmpQ (trmX l m c i) (trmX l m c j) := by
  by_cases h1 : wgtQ l i ≤ wgtQ l j
  · have h2 := hg.mono h hi hj h1
    have a1 : cmpQ (wgtQ l i) (wgtQ l j) ≤ 0 := by
      have : ¬ 0 < cmpQ (wgtQ l i) (wgtQ l j) := fun e => Rat.not_lt.2 h1 (cmpQ_pos.1 e)
      omega
    have a2 : cmpQ (trmX l m c i) (trmX l m c j) ≤ 0 := by
      have : ¬ 0 < cmpQ (trmX l m c i) (trmX l m c j) := fun e => Rat.not_lt.2 h2 (cmpQ_pos.1 e)
      omega
    exact Int.mul_nonneg_of_nonpos_of_nonpos a1 a2
  · have h1 : wgtQ l j ≤ wgtQ l i := Rat.le_of_lt (Rat.not_le.1 h1)
    have h2 := hg.mono h hj hi h1
    have a1 : 0 ≤ cmpQ (wgtQ l i) (wgtQ l j) := by
      have : ¬ cmpQ (wgtQ l i) (wgtQ l j) < 0 := fun e => Rat.not_lt.2 h1 (cmpQ_neg.1 e)
      omega
    have a2 : 0 ≤ cmpQ (trmX l m c i) (trmX l m c j) := by
      have : ¬ cmpQ (trmX l m c i) (trmX l m c j) < 0 := fun e => Rat.not_lt.2 h2 (cmpQ_neg.1 e)
      omega
    exact Int.mul_nonneg a1 a2
/-- The end is reached. -/
theorem trC_end (hw : ∀ j, j < l.length → 0 < wgtQ l j) (hn : 0 < l.length) (hm : 1 ≤ m) : tkA (trmX l m (trC l m)) (bndQ l m) (trC l m) l.length = false := by
  have h : ∀ r, r ≤ l.length → r ≤ cntN (trS l m r) l.length ∨ ∃ q, q < r ∧ tkA (trmX l m (trS l m q)) (bndQ l m) (trS l m q) l.length = false := by
    intro r
    induction r with
    | zero => exact fun _ => .inl (Nat.zero_le _)
    | succ r ih =>
      intro hr
      rcases ih (by omega) with h1 | ⟨q, hq, h1⟩
      · cases hb : tkA (trmX l m (trS l m r)) (bndQ l m) (trS l m r) l.length
        · exact .inr ⟨r, by omega, hb⟩
        · exact .inl (trS_cnt h1 hb)
      · exact .inr ⟨q, by omega, h1⟩
  rcases h l.length (Nat.le_refl _) with h1 | ⟨q, hq, h1⟩
  · cases hb : tkA (trmX l m (trC l m)) (bndQ l m) (trC l m) l.length
    · rfl
    · have h2 := trS_cnt (r := l.length) h1 hb
      have h3 := cntN_le (trS l m (l.length + 1)) l.length
      omega
  · have h2 := trC_fix (Nat.le_of_lt hq) h1
    rw [h2]; exact h1
end
end Go.Proofs.YtdlnhmcgnpjooaaGreatDoor

namespace Go.Proofs.YtdlnhmcgnpjooaaGreatDoor
open Go.RowKit
set_option linter.unusedVariables false
set_option linter.unusedSimpArgs false
theorem Own.setNe {α : Type} [Rep α] {B : Nat} {φ : Phi} {w : World} {E : TypeId} {g cap : Nat} {xs : List α} (h : Own B φ w E (some ⟨g, 0, none⟩) cap xs) {b k : Nat} {v : Value} (hne : g ≠ b) : Own B φ (w.setCell ⟨b, k, none⟩ v) E (some ⟨g, 0, none⟩) cap xs :=
  h.other (row := some b) ⟨rfl, rfl, rfl, by simp [World.setCell], fun q _ hq => Below.heap_setCell _ _ _ _ (by intro e; exact hq (by rw [e]))⟩ (fun x hx e => by cases hx; cases e; exact hne rfl)
theorem RsSt.setNe {w0 wr : World} {φ0 φ : Phi} {b g : Nat} {cs : Array Value} {T : TypeId} (h : RsSt w0 φ0 φ b cs T wr) (hg : w0.heap.size ≤ g) (hf : φ g = none) (hne : g ≠ b) (j : Nat) (u : Value) : RsSt w0 φ0 φ b cs T (wr.setCell ⟨g, j, none⟩ u) := ⟨h.inv.setCell hg hf u, h.k.other hne u, h.f, h.l⟩
theorem Own.markD {B : Nat} {φ : Phi} {w : World} {E : TypeId} {a : Option Addr} {cap : Nat} {xs : List Bool} (h : Own B φ w E a cap xs) {k n : Nat} (hn : Hid (xs.length = n)) (hk : k < n) :
    ∃ g, a = some ⟨g, 0, none⟩ ∧ g < w.heap.size ∧ ∀ k, k < n → w.cell? ⟨g, k, none⟩ = some (.bool (xs.getD k false)) ∧ w.frozen? ⟨g, k, none⟩ = false ∧
      ∀ y w0 φ0, Inv B w0 φ0 φ w → Own B φ (w.setCell ⟨g, k, none⟩ (.bool y)) E a cap (xs.set k y) ∧ Inv B w0 φ0 φ (w.setCell ⟨g, k, none⟩ (.bool y)) := by
  obtain ⟨g, rfl, _, hg, _, hf, hc⟩ := h.elem (k := k) (by rw [hn.out]; exact hk)
  refine ⟨g, rfl, hg, fun k hk => ?_⟩
  have hk' : k < xs.length := by rw [hn.out]; exact hk
  obtain ⟨cs, hcs, hj⟩ := hc k hk'
  have hcs' : cs = [.bool xs[k]] := hcs
  subst hcs'
  have h0 := hj 0 (by simp)
  simp [Rep.size] at h0
  refine ⟨by rw [h0, getD_elem0 _ _ _ hk'], hf k, fun y w0 φ0 hi => ?_⟩
  have := h.setCell hi hk' (y := y) (j := 0) (u := .bool y) hj rfl (by simp) rfl
  simpa [Rep.size] using this
/-- Two rows of the call's own: numbers and marks. -/
structure TwS (E : TypeId) (w0 : World) (φ0 φ : Phi) (g cg : Nat) (rs : List Raw3) (e ce : Nat) (c : List Bool) (W : World) : Prop where
  inv : Inv w0.heap.size w0 φ0 φ W
  o : Own w0.heap.size φ W E (some ⟨g, 0, none⟩) cg rs
  k : Own w0.heap.size φ W 4 (some ⟨e, 0, none⟩) ce c
  n3 : g ≠ e
/-- The same beside a box. -/
structure TqS (T E : TypeId) (w0 : World) (φ0 φ : Phi) (b : Nat) (cs : Array Value) (g cg : Nat) (rs : List Raw3) (e ce : Nat) (c : List Bool) (W : World) : Prop where
  r : RsSt w0 φ0 φ b cs T W
  t : TwS E w0 φ0 φ g cg rs e ce c W
  n1 : g ≠ b
  n2 : e ≠ b
section
variable {T E : TypeId} {w0 W w' : World} {φ0 φ φ' : Phi} {b : Nat} {cs : Array Value} {g cg : Nat} {rs : List Raw3} {e ce : Nat} {c : List Bool}
theorem TwS.call (h : TwS E w0 φ0 φ g cg rs e ce c W) (hi : Inv W.heap.size W φ φ' w') : TwS E w0 φ0 φ' g cg rs e ce c w' := ⟨h.inv.call hi, h.o.call hi, h.k.call hi, h.n3⟩
theorem TwS.callB (h : TwS E w0 φ0 φ g cg rs e ce c W) (hb : Below W.heap.size W w') : TwS E w0 φ0 φ g cg rs e ce c w' := ⟨h.inv.callB hb, h.o.callB hb, h.k.callB hb, h.n3⟩
theorem TwS.drew (h : TwS E w0 φ0 φ g cg rs e ce c W) : TwS E w0 φ0 φ g cg rs e ce c W.drew := h.callB (bdrewN (Below.refl _ W) 1)
theorem TwS.alloc (h : TwS E w0 φ0 φ g cg rs e ce c W) (o : Obj) : TwS E w0 φ0 φ g cg rs e ce c (W.alloc o) := h.callB ((Below.refl _ _).alloc (Nat.le_refl _) _)
theorem TwS.setE (h : TwS E w0 φ0 φ g cg rs e ce c W) {k n : Nat} (hn : Hid (c.length = n)) (hk : k < n) (y : Bool) : TwS E w0 φ0 φ g cg rs e ce (c.set k y) (W.setCell ⟨e, k, none⟩ (.bool y)) := by
  obtain ⟨g', hg', _, hh⟩ := h.k.markD hn hk
  cases hg'
  obtain ⟨h1, h2⟩ := (hh k hk).2.2 y w0 φ0 h.inv
  exact ⟨h2, h.o.setNe h.n3, h1, h.n3⟩
theorem TwS.setO (h : TwS E w0 φ0 φ g cg rs e ce c W) {k n : Nat} (hn : Hid (rs.length = n)) (hk : k < n) (g0 : Bool) (a1 : Option Addr) (k1 c1 : Nat) (a2 : Option Addr) (k2 c2 : Nat) : TwS E w0 φ0 φ g cg (rs.set k ⟨g0, a1, k1, c1, a2, k2, c2⟩) e ce c (((W.setCell ⟨g, k * 3, none⟩ (.bool g0)).setCell ⟨g, k * 3 + 1, none⟩ (.slice a1 k1 c1)).setCell ⟨g, k * 3 + 2, none⟩ (.slice a2 k2 c2)) := by
  obtain ⟨g', hg', _, _, _, _, _, _, _, hh⟩ := h.o.rawD hn hk
  cases hg'
  obtain ⟨h1, h2⟩ := hh ⟨g0, a1, k1, c1, a2, k2, c2⟩ w0 φ0 h.inv
  exact ⟨h2, h1, ((h.k.setNe (Ne.symm h.n3)).setNe (Ne.symm h.n3)).setNe (Ne.symm h.n3), h.n3⟩
theorem TwS.mark (h : TwS E w0 φ0 φ g cg rs e ce c W) {k n : Nat} (hn : Hid (c.length = n)) (hk : k < n) : W.cell? ⟨e, k, none⟩ = some (.bool (c.getD k false)) ∧ W.frozen? ⟨e, k, none⟩ = false := by
  obtain ⟨g', hg', _, hh⟩ := h.k.markD hn hk
  cases hg'
  exact ⟨(hh k hk).1, (hh k hk).2.1⟩
theorem TwS.num (h : TwS E w0 φ0 φ g cg rs e ce c W) {k n : Nat} (hn : Hid (rs.length = n)) (hk : k < n) : W.cell? ⟨g, k * 3, none⟩ = some (.bool (rs.getD k raw0).g) ∧ W.cell? ⟨g, k * 3 + 1, none⟩ = some (.slice (rs.getD k raw0).a1 (rs.getD k raw0).k1 (rs.getD k raw0).c1) ∧ W.cell? ⟨g, k * 3 + 2, none⟩ = some (.slice (rs.getD k raw0).a2 (rs.getD k raw0).k2 (rs.getD k raw0).c2) ∧ (∀ j, W.frozen? ⟨g, j, none⟩ = false) := by
  obtain ⟨g', hg', _, _, _, h1, h2, h3, h4, _⟩ := h.o.rawD hn hk
  cases hg'
  exact ⟨h1, h2, h3, h4⟩
theorem TwS.gl (h : TwS E w0 φ0 φ g cg rs e ce c W) : w0.heap.size ≤ g ∧ φ g = none ∧ g < W.heap.size := ⟨(h.o.lt _ rfl).1, h.o.free _ rfl, (h.o.lt _ rfl).2⟩
theorem TwS.el (h : TwS E w0 φ0 φ g cg rs e ce c W) : w0.heap.size ≤ e ∧ φ e = none ∧ e < W.heap.size := ⟨(h.k.lt _ rfl).1, h.k.free _ rfl, (h.k.lt _ rfl).2⟩
theorem TqS.call (h : TqS T E w0 φ0 φ b cs g cg rs e ce c W) (hi : Inv W.heap.size W φ φ' w') : TqS T E w0 φ0 φ' b cs g cg rs e ce c w' := ⟨h.r.call hi, h.t.call hi, h.n1, h.n2⟩
theorem TqS.callB (h : TqS T E w0 φ0 φ b cs g cg rs e ce c W) (hb : Below W.heap.size W w') : TqS T E w0 φ0 φ b cs g cg rs e ce c w' := ⟨h.r.callB hb, h.t.callB hb, h.n1, h.n2⟩
theorem TqS.drew (h : TqS T E w0 φ0 φ b cs g cg rs e ce c W) : TqS T E w0 φ0 φ b cs g cg rs e ce c W.drew := h.callB (bdrewN (Below.refl _ W) 1)
theorem TqS.setB (h : TqS T E w0 φ0 φ b cs g cg rs e ce c W) (j : Nat) (u : Value) : TqS T E w0 φ0 φ b (cs.setIfInBounds j u) g cg rs e ce c (W.setCell ⟨b, j, none⟩ u) :=
  ⟨h.r.set j u, ⟨(h.r.set j u).inv, h.t.o.setNe h.n1, h.t.k.setNe h.n2, h.t.n3⟩, h.n1, h.n2⟩
theorem TqS.setE (h : TqS T E w0 φ0 φ b cs g cg rs e ce c W) {k n : Nat} (hn : Hid (c.length = n)) (hk : k < n) (y : Bool) : TqS T E w0 φ0 φ b cs g cg rs e ce (c.set k y) (W.setCell ⟨e, k, none⟩ (.bool y)) :=
  ⟨h.r.setNe h.t.el.1 h.t.el.2.1 h.n2 _ _, h.t.setE hn hk y, h.n1, h.n2⟩
theorem TqS.setO (h : TqS T E w0 φ0 φ b cs g cg rs e ce c W) {k n : Nat} (hn : Hid (rs.length = n)) (hk : k < n) (g0 : Bool) (a1 : Option Addr) (k1 c1 : Nat) (a2 : Option Addr) (k2 c2 : Nat) : TqS T E w0 φ0 φ b cs g cg (rs.set k ⟨g0, a1, k1, c1, a2, k2, c2⟩) e ce c (((W.setCell ⟨g, k * 3, none⟩ (.bool g0)).setCell ⟨g, k * 3 + 1, none⟩ (.slice a1 k1 c1)).setCell ⟨g, k * 3 + 2, none⟩ (.slice a2 k2 c2)) :=
  ⟨((h.r.setNe h.t.gl.1 h.t.gl.2.1 h.n1 _ _).setNe h.t.gl.1 h.t.gl.2.1 h.n1 _ _).setNe h.t.gl.1 h.t.gl.2.1 h.n1 _ _, h.t.setO hn hk g0 a1 k1 c1 a2 k2 c2, h.n1, h.n2⟩
theorem TqS.put3 {c0 c1 c2 : Value} (h : TqS T E w0 φ0 φ b #[c0, c1, c2] g cg rs e ce c W) (u0 u1 u2 : Value) : TqS T E w0 φ0 φ b #[u0, u1, u2] g cg rs e ce c (((W.setCell ⟨b, 0, none⟩ u0).setCell ⟨b, 1, none⟩ u1).setCell ⟨b, 2, none⟩ u2) := ((h.setB 0 u0).setB 1 u1).setB 2 u2
theorem TqS.new (h : TwS E w0 φ0 φ g cg rs e ce c W) (cs : Array Value) (T : TypeId) : TqS T E w0 φ0 φ W.heap.size cs g cg rs e ce c (W.alloc (.cells cs T)) :=
  ⟨RsSt.start h.inv cs T, h.alloc _, by have := h.gl.2.2; omega, by have := h.el.2.2; omega⟩
/-- The box is frozen. -/
theorem TqS.frz (h : TqS T E w0 φ0 φ b cs g cg rs e ce c W) : ∃ φ', φ.le φ' ∧ TwS E w0 φ0 φ' g cg rs e ce c W ∧ φ' b = some (.cells cs T) := by
  obtain ⟨φ1, l1, i1, e1, f1⟩ := h.r.inv.frzAt h.r.k h.r.l
  exact ⟨φ1, l1, ⟨i1, h.t.o.frz l1 (fun x hx => by cases hx; exact f1 g h.n1), h.t.k.frz l1 (fun x hx => by cases hx; exact f1 e h.n2), h.t.n3⟩, e1⟩
end
/-- The marks in a world, as a measure. -/
def markW (W : World) (e i : Nat) : Bool := match W.cell? ⟨e, i, none⟩ with | some (.bool b) => b | _ => false
def cntW (W : World) (e n : Nat) : Nat := cntN ((List.range n).map (markW W e)) n
theorem cntN_congr {c d : List Bool} : ∀ {n : Nat}, (∀ i, i < n → c.getD i false = d.getD i false) → cntN c n = cntN d n
  | 0, _ => rfl
  | n + 1, h => by
    show (if c.getD n false then cntN c n + 1 else cntN c n) = if d.getD n false then cntN d n + 1 else cntN d n
    rw [h n (by omega), cntN_congr (fun i hi => h i (by omega))]
theorem TwS.cnt {E : TypeId} {w0 W : World} {φ0 φ : Phi} {g cg : Nat} {rs : List Raw3} {e ce : Nat} {c : List Bool} (h : TwS E w0 φ0 φ g cg rs e ce c W) {n : Nat} (hn : Hid (c.length = n)) : cntW W e n = cntN c n := by
  refine cntN_congr (fun i hi => ?_)
  have h1 := (h.mark hn hi).1
  simp only [List.getD_eq_getElem?_getD, List.getElem?_map, List.getElem?_range hi, Option.map_some, Option.getD_some]
  unfold markW
  rw [h1]
  simp [List.getD_eq_getElem?_getD]
/-- make of marks, as an equation. -/
theorem makeB_eq (n : Nat) (h : n ≤ 281474976710656) (w : World) : (Instr.makeSlice 37 (.int .i64 (n : Int)) (.int .i64 (n : Int))).run Tryz.prog w = .ok (.slice (some ⟨w.heap.size, 0, none⟩) n n) (w.alloc (.cells (madeCells #[.bool false] n) 4)) :=
  run_make_row' 37 4 (.bool false) 1 Tryz.underlying37 (by kernel_rfl) rfl .i64 .i64 n (by omega) (by omega) w
theorem madeB_list (n : Nat) : (madeCells #[Value.bool false] n).toList = List.replicate n (Value.bool false) := by
  unfold madeCells
  rw [Array.toList_map, Array.toList_range]
  apply List.ext_getElem
  · simp
  · intro i h1 h2
    simp [Nat.mod_one]
theorem Own.madeB {B : Nat} {w0 w : World} {φ0 φ : Phi} (hi : Inv B w0 φ0 φ w) (E : TypeId) (n : Nat) (hn : n ≤ maxLen) : Own B φ (w.alloc (.cells (madeCells #[.bool false] n) E)) E (some ⟨w.heap.size, 0, none⟩) n (List.replicate n false) := by
  have hr : RepL φ (List.replicate n false) (madeCells #[.bool false] n).toList := by
    rw [madeB_list]
    have h := RepL.replicate (φ := φ) (α := Bool) (y := false) (rfl : Rep.rep φ false [Value.bool false]) n
    have e : (List.replicate n [Value.bool false]).flatten = List.replicate n (Value.bool false) := by simp
    rwa [e] at h
  have := Own.lit hi E hr (by rw [List.length_replicate]; exact hn)
  rwa [List.length_replicate] at this
end Go.Proofs.YtdlnhmcgnpjooaaGreatDoor

namespace Go.Proofs.YtdlnhmcgnpjooaaGreatDoor
open Go.RowKit
set_option linter.unusedVariables false
set_option linter.unusedSimpArgs false
set_option maxRecDepth 100000 in
set_option maxHeartbeats 4000000 in
theorem take_any {M N D N2 D2 : Nat} (hM : LenB M) (hB : Hid (N * D2 + N2 * D ≤ M ∧ D * D2 ≤ M)) {n : Nat} (hn3 : n ≤ 3000) {f : Nat → Rat} {bd : Rat} {w0 w : World} {φ0 φ : Phi} {b : Nat} {ao : Option Addr} {co g cg : Nat} {gb : Bool} {a1 : Option Addr} {k1 c1 : Nat} {a2 : Option Addr} {k2 c2 e ce : Nat} {rs : List Raw3} {c : List Bool}
    (hV : Hid (∀ m, m < n → FfX φ (rs.getD m raw0).v (f m) N D)) (hb : Hid (FfX φ (.agg #[.bool gb, .slice a1 k1 c1, .slice a2 k2 c2]) bd N2 D2)) (hrn : Hid (rs.length = n)) (hcn : Hid (c.length = n))
    (hS : Hid (TqS 93 63 w0 φ0 φ b #[.slice ao n co, .slice (some ⟨g, 0, none⟩) n cg, .bool gb, .slice a1 k1 c1, .slice a2 k2 c2, .slice (some ⟨e, 0, none⟩) n ce, .int .i64 ((cntN c n : Nat) : Int)] g cg rs e ce c w)) :
    Calls Tryz.prog 57 #[.pointer (some ⟨b, 0, none⟩)] w (fun en w' => en = .returned (.bool (tkA f bd c n)) ∧ Hid (TqS 93 63 w0 φ0 φ b #[.slice ao n co, .slice (some ⟨g, 0, none⟩) n cg, .bool gb, .slice a1 k1 c1, .slice a2 k2 c2, .slice (some ⟨e, 0, none⟩) n ce, .int .i64 ((cntN (tkL f bd c n) n : Nat) : Int)] g cg rs e ce (tkL f bd c n) w')) := by
  have hcl : Hid (∀ k, (tkL f bd c k).length = n) := Lib.hid (fun k => by rw [tkL_len]; exact hcn.out)
  have q1 : w.cell? ⟨b, 1, none⟩ = some (.slice (some ⟨g, 0, none⟩) n cg) := hS.out.r.k.cell 1
  go_enter Tryz.func57, Tryz.ntmps57
  go_wp2
  go_loopw [3, 10] (fun av iv wr => ∃ (k : Nat) (bv : Bool), k ≤ n ∧ iv = .int .i64 (k : Int) ∧ av = .bool bv ∧ Hid (tkA f bd c k = bv) ∧ Hid (TqS 93 63 w0 φ0 φ b #[.slice ao n co, .slice (some ⟨g, 0, none⟩) n cg, .bool gb, .slice a1 k1 c1, .slice a2 k2 c2, .slice (some ⟨e, 0, none⟩) n ce, .int .i64 ((cntN (tkL f bd c k) n : Nat) : Int)] g cg rs e ce (tkL f bd c k) wr)) (fun _ iv _ => n - (intOf iv).toNat)
  case atStart => exact ⟨0, false, Nat.zero_le _, rfl, rfl, Lib.hid rfl, hS⟩
  case round =>
    clear hS q1
    obtain ⟨k, bv, hk, rfl, rfl, hbv, hT⟩ := hrel
    by_cases hlt : k < n
    · have hlti : (k : Int) < (n : Int) := by omega
      have hLk := Lib.hid (hcl.out k)
      have hc3 : cntN (tkL f bd c k) n ≤ 3000 := Nat.le_trans (cntN_le _ _) hn3
      have hX : Hid (FfX φ (rs.getD k raw0).v (f k) N D) := Lib.hid (hV.out k hlt)
      have hyes := Lib.hid (fun (h1 : (tkL f bd c k).getD k false = false) (h2 : bd < f k) => tk_yes h1 h2)
      have hno := Lib.hid (fun (h : ¬ ((tkL f bd c k).getD k false = false ∧ bd < f k)) => tk_no h)
      have hset := Lib.hid (fun (h0 : (tkL f bd c k).getD k false = false) => cntN_set (c := tkL f bd c k) (by rw [hLk.out]; exact hlt) h0 hlt)
      obtain ⟨L, hL⟩ : ∃ L, tkL f bd c k = L := ⟨_, rfl⟩
      rw [hL] at hT hLk hc3 hyes hno hset
      clear hL
      obtain ⟨cn, hcnt⟩ : ∃ m, cntN L n = m := ⟨_, rfl⟩
      rw [hcnt] at hT hc3 hset
      have HCN := Lib.hid hcnt
      clear hcnt
      generalize hr0 : rs.getD k raw0 = r0 at hX
      obtain ⟨g0, x1, y1, z1, x2, y2, z2⟩ := r0
      have hcf := Lib.hid (fun (W : World) (h : Hid (TqS 93 63 w0 φ0 φ b #[.slice ao n co, .slice (some ⟨g, 0, none⟩) n cg, .bool gb, .slice a1 k1 c1, .slice a2 k2 c2, .slice (some ⟨e, 0, none⟩) n ce, .int .i64 (cn : Int)] g cg rs e ce L W)) => (by
        have h1 := h.out.t.mark hLk hlt
        have h2 := h.out.t.num hrn hlt
        rw [hr0] at h2
        exact ⟨h.out.r.k.cell 5, h1.1, h.out.r.k.cell 1, h2.1, h2.2.1, h2.2.2.1, h.out.r.k.cell 2, h.out.r.k.cell 3, h.out.r.k.cell 4, h.out.r.k.cell 6, h.out.r.k.frz 6, h1.2⟩ : W.cell? ⟨b, 5, none⟩ = some (.slice (some ⟨e, 0, none⟩) n ce) ∧ W.cell? ⟨e, k, none⟩ = some (.bool (L.getD k false)) ∧ W.cell? ⟨b, 1, none⟩ = some (.slice (some ⟨g, 0, none⟩) n cg) ∧ W.cell? ⟨g, k * 3, none⟩ = some (.bool g0) ∧ W.cell? ⟨g, k * 3 + 1, none⟩ = some (.slice x1 y1 z1) ∧ W.cell? ⟨g, k * 3 + 2, none⟩ = some (.slice x2 y2 z2) ∧ W.cell? ⟨b, 2, none⟩ = some (.bool gb) ∧ W.cell? ⟨b, 3, none⟩ = some (.slice a1 k1 c1) ∧ W.cell? ⟨b, 4, none⟩ = some (.slice a2 k2 c2) ∧ W.cell? ⟨b, 6, none⟩ = some (.int .i64 (cn : Int)) ∧ W.frozen? ⟨b, 6, none⟩ = false ∧ W.frozen? ⟨e, k, none⟩ = false))
      clear hr0
      have hX : Hid (FfX φ (.agg #[.bool g0, .slice x1 y1 z1, .slice x2 y2 z2]) (f k) N D) := hX
      clear hV
      obtain ⟨ik, hik⟩ : ∃ m, L.getD k false = m := ⟨_, rfl⟩
      rw [hik] at hcf hyes hno hset
      clear hik
      have hTd : Hid (TqS 93 63 w0 φ0 φ b #[.slice ao n co, .slice (some ⟨g, 0, none⟩) n cg, .bool gb, .slice a1 k1 c1, .slice a2 k2 c2, .slice (some ⟨e, 0, none⟩) n ce, .int .i64 (cn : Int)] g cg rs e ce L wr.drew) := Lib.hid hT.out.drew
      obtain ⟨p0, p1, p2, p3, p4, p5, p6, p7, p8, p9, p10, p11⟩ := hcf.out wr hT
      obtain ⟨d0, d1, d2, d3, d4, d5, d6, d7, d8, _⟩ := hcf.out wr.drew hTd
      cases ik
      · obtain ⟨q, hq⟩ : ∃ q, Hid (cmpQ (f k) bd = q) := ⟨_, Lib.hid rfl⟩
        by_cases hpos : 0 < q
        · have hpd : decide (0 < q) = true := decide_eq_true hpos
          have hlb : Hid (bd < f k) := Lib.hid (cmpQ_pos.1 (by rw [hq.out]; exact hpos))
          have hy := Lib.hid (hyes.out rfl hlb.out)
          have hs := Lib.hid (hset.out rfl)
          clear hyes hno hset
          go_upto_region 5 with fail
          go_region_held3 (fun w' => w'.cell? ⟨b, 5, none⟩ = some (.slice (some ⟨e, 0, none⟩) n ce) ∧ w'.cell? ⟨e, k, none⟩ = some (.bool false) ∧ w'.cell? ⟨b, 1, none⟩ = some (.slice (some ⟨g, 0, none⟩) n cg) ∧ w'.cell? ⟨g, k * 3, none⟩ = some (.bool g0) ∧ w'.cell? ⟨g, k * 3 + 1, none⟩ = some (.slice x1 y1 z1) ∧ w'.cell? ⟨g, k * 3 + 2, none⟩ = some (.slice x2 y2 z2) ∧ w'.cell? ⟨b, 2, none⟩ = some (.bool gb) ∧ w'.cell? ⟨b, 3, none⟩ = some (.slice a1 k1 c1) ∧ w'.cell? ⟨b, 4, none⟩ = some (.slice a2 k2 c2)) (first | with_reducible exact ⟨d0, d1, d2, d3, d4, d5, d6, d7, d8⟩ | with_reducible exact ⟨by assumption, by assumption, by assumption, by assumption, by assumption, by assumption, by assumption, by assumption, by assumption⟩) (first
            | ((with_reducible refine (Compare_any hM hTd.out.r.inv.fz hX.out hb.out hB.out.1 hB.out.2 hq).mono ?_); rintro en w7 ⟨rfl, hb7⟩; have S7 := Lib.hid (hTd.out.callB hb7); obtain ⟨o0, o1, o2, o3, o4, o5, o6, o7, o8, o9, o10, o11⟩ := hcf.out w7 S7; clear hb7))
          all_goals
            clear p0 p1 p2 p3 p4 p5 p6 p7 p8 p9 p10 p11 d0 d1 d2 d3 d4 d5 d6 d7 d8 hT hTd hcf
            go_upto_region 7 with fail
            clear o0 o1 o2 o3 o4 o5 o6 o7 o8 o9 o10 o11
            have S8 := Lib.hid (S7.out.setE hLk hlt true)
            clear S7
            generalize w7.setCell ⟨e, k, none⟩ (.bool true) = w8 at *
            have r6 : w8.cell? ⟨b, 6, none⟩ = some (.int .i64 (cn : Int)) := S8.out.r.k.cell 6
            have r7 := S8.out.r.k.frz 6
            have S9 : Hid (TqS 93 63 w0 φ0 φ b #[.slice ao n co, .slice (some ⟨g, 0, none⟩) n cg, .bool gb, .slice a1 k1 c1, .slice a2 k2 c2, .slice (some ⟨e, 0, none⟩) n ce, .int .i64 ((cn : Int) + 1)] g cg rs e ce (L.set k true) (w8.setCell ⟨b, 6, none⟩ (.int .i64 ((cn : Int) + 1)))) := Lib.hid (S8.out.setB 6 _)
            have hE : ((cn : Int) + 1) = ((cntN (tkL f bd c (k + 1)) n : Nat) : Int) := by rw [hy.out.1, hs.out]; rfl
            have S9 := S9
            rw [← hy.out.1] at S9
            have S9' : Hid (TqS 93 63 w0 φ0 φ b #[.slice ao n co, .slice (some ⟨g, 0, none⟩) n cg, .bool gb, .slice a1 k1 c1, .slice a2 k2 c2, .slice (some ⟨e, 0, none⟩) n ce, .int .i64 ((cntN (tkL f bd c (k + 1)) n : Nat) : Int)] g cg rs e ce (tkL f bd c (k + 1)) (w8.setCell ⟨b, 6, none⟩ (.int .i64 ((cn : Int) + 1)))) := Lib.hid (by rw [← hE]; exact S9.out)
            clear S9 S8 hE
            go_wp2
            go_roundw
            case rel => exact ⟨k + 1, true, by omega, by go_num, rfl, Lib.hid hy.out.2, S9'⟩
            case measure => (simp [intOf] <;> omega)
        · have hpd : decide (0 < q) = false := decide_eq_false hpos
          have hlb : Hid (¬ bd < f k) := Lib.hid (fun h => hpos (by rw [← hq.out]; exact cmpQ_pos.2 h))
          have hy := Lib.hid (hno.out (fun h => hlb.out h.2))
          clear hyes hno hset
          go_upto_region 5 with fail
          go_region_held3 (fun w' => w'.cell? ⟨b, 5, none⟩ = some (.slice (some ⟨e, 0, none⟩) n ce) ∧ w'.cell? ⟨e, k, none⟩ = some (.bool false) ∧ w'.cell? ⟨b, 1, none⟩ = some (.slice (some ⟨g, 0, none⟩) n cg) ∧ w'.cell? ⟨g, k * 3, none⟩ = some (.bool g0) ∧ w'.cell? ⟨g, k * 3 + 1, none⟩ = some (.slice x1 y1 z1) ∧ w'.cell? ⟨g, k * 3 + 2, none⟩ = some (.slice x2 y2 z2) ∧ w'.cell? ⟨b, 2, none⟩ = some (.bool gb) ∧ w'.cell? ⟨b, 3, none⟩ = some (.slice a1 k1 c1) ∧ w'.cell? ⟨b, 4, none⟩ = some (.slice a2 k2 c2)) (first | with_reducible exact ⟨d0, d1, d2, d3, d4, d5, d6, d7, d8⟩ | with_reducible exact ⟨by assumption, by assumption, by assumption, by assumption, by assumption, by assumption, by assumption, by assumption, by assumption⟩) (first
            | ((with_reducible refine (Compare_any hM hTd.out.r.inv.fz hX.out hb.out hB.out.1 hB.out.2 hq).mono ?_); rintro en w7 ⟨rfl, hb7⟩; have S7 := Lib.hid (hTd.out.callB hb7); obtain ⟨o0, o1, o2, o3, o4, o5, o6, o7, o8, o9, o10, o11⟩ := hcf.out w7 S7; clear hb7))
          all_goals
            clear p0 p1 p2 p3 p4 p5 p6 p7 p8 p9 p10 p11 d0 d1 d2 d3 d4 d5 d6 d7 d8 hT hTd hcf o0 o1 o2 o3 o4 o5 o6 o7 o8 o9 o10 o11
            have S9' : Hid (TqS 93 63 w0 φ0 φ b #[.slice ao n co, .slice (some ⟨g, 0, none⟩) n cg, .bool gb, .slice a1 k1 c1, .slice a2 k2 c2, .slice (some ⟨e, 0, none⟩) n ce, .int .i64 ((cntN (tkL f bd c (k + 1)) n : Nat) : Int)] g cg rs e ce (tkL f bd c (k + 1)) w7) := Lib.hid (by rw [hy.out.1, HCN.out]; exact S7.out)
            clear S7
            go_wp2
            go_roundw
            case rel => exact ⟨k + 1, bv, by omega, by go_num, rfl, Lib.hid (by rw [hy.out.2]; exact hbv.out), S9'⟩
            case measure => (simp [intOf] <;> omega)
      · have hy := Lib.hid (hno.out (fun h => by have := h.1; simp at this))
        clear hyes hno hset
        go_upto_region 5 with fail
        have S9' : Hid (TqS 93 63 w0 φ0 φ b #[.slice ao n co, .slice (some ⟨g, 0, none⟩) n cg, .bool gb, .slice a1 k1 c1, .slice a2 k2 c2, .slice (some ⟨e, 0, none⟩) n ce, .int .i64 ((cntN (tkL f bd c (k + 1)) n : Nat) : Int)] g cg rs e ce (tkL f bd c (k + 1)) wr) := Lib.hid (by rw [hy.out.1, HCN.out]; exact hT.out)
        go_quiet (fail)
        clear p0 p1 p2 p3 p4 p5 p6 p7 p8 p9 p10 p11 d0 d1 d2 d3 d4 d5 d6 d7 d8 hT hTd hcf
        go_wp2
        go_roundw
        case rel => exact ⟨k + 1, bv, by omega, by go_num, rfl, Lib.hid (by rw [hy.out.2]; exact hbv.out), Lib.hid (S9'.out.callB (bdrewN (Below.refl _ wr) _))⟩
        case measure => (simp [intOf] <;> omega)
    · obtain rfl : k = n := by omega
      go_wp2
      go_ret
      refine ⟨?_, hT⟩
      rw [hbv.out]; rfl
end Go.Proofs.YtdlnhmcgnpjooaaGreatDoor

namespace Go.Proofs.YtdlnhmcgnpjooaaGreatDoor
open Go.RowKit
set_option linter.unusedVariables false
set_option linter.unusedSimpArgs false
/-- The weights of those that are not marked. -/
noncomputable def othL (l : List Psn) (c : List Bool) (k : Nat) : List Rat := ((List.range k).filter (fun j => !c.getD j false)).map (wgtQ l)
section
variable {l : List Psn} {c : List Bool}
theorem othL_yes {k : Nat} (h : c.getD k false = true) : othL l c (k + 1) = othL l c k := by
  unfold othL
  rw [List.range_succ, List.filter_append, List.map_append, List.filter_cons, if_neg (by simp only [h]; decide)]; simp
theorem othL_no {k : Nat} (h : c.getD k false = false) : othL l c (k + 1) = othL l c k ++ [wgtQ l k] := by
  unfold othL
  rw [List.range_succ, List.filter_append, List.map_append, List.filter_cons, if_pos (by simp only [h]; decide)]; rfl
theorem othL_sum : ∀ k, sumQ (othL l c k) = sumF (rstF l c) k
  | 0 => rfl
  | k + 1 => by
    cases h : c.getD k false
    · rw [othL_no h, sumQ_snoc, rstF_no h, othL_sum k]
    · rw [othL_yes h, rstF_yes h, othL_sum k]
theorem othL_len : ∀ k, (othL l c k).length ≤ k
  | 0 => Nat.le_refl _
  | k + 1 => by
    have := othL_len k
    cases h : c.getD k false
    · rw [othL_no h, List.length_append]; simp; omega
    · rw [othL_yes h]; omega
theorem othL_nil : ∀ {k : Nat}, (othL l c k).length = 0 → ∀ m, m < k → c.getD m false = true
  | 0, _, m, hm => absurd hm (Nat.not_lt_zero m)
  | k + 1, h, m, hm => by
    cases hc : c.getD k false
    · rw [othL_no hc, List.length_append] at h; simp at h
    · rw [othL_yes hc] at h
      by_cases e : m = k
      · subst e; exact hc
      · exact othL_nil h m (by omega)
theorem othL_ex : ∀ {k : Nat}, 0 < (othL l c k).length → ∃ m, m < k ∧ c.getD m false = false
  | 0, h => absurd h (Nat.lt_irrefl 0)
  | k + 1, h => by
    cases hc : c.getD k false
    · exact ⟨k, Nat.lt_succ_self k, hc⟩
    · rw [othL_yes hc] at h
      obtain ⟨m, h1, h2⟩ := othL_ex h
      exact ⟨m, Nat.lt_succ_of_lt h1, h2⟩
theorem sumQ_range (f : Nat → Rat) : ∀ n, sumQ ((List.range n).map f) = sumF f n
  | 0 => rfl
  | n + 1 => by rw [range_snoc, sumQ_snoc, sumQ_range f n]; rfl
theorem range_getD (f : Nat → Rat) {n k : Nat} (h : k < n) : ((List.range n).map f).getD k 0 = f k := by
  simp [List.getD_eq_getElem?_getD, List.getElem?_map, h]
end
theorem keepO {w : World} {a : Addr} {v u0 u1 u2 : Value} {g i j q : Nat} (h : w.cell? a = some v) (hne : g ≠ a.block) : (((w.setCell ⟨g, i, none⟩ u0).setCell ⟨g, j, none⟩ u1).setCell ⟨g, q, none⟩ u2).cell? a = some v := keep1 (keep1 (keep1 h hne) hne) hne
/-- The bounds of trimming. -/
structure TrB (M N K1 K2 KL K3 n : Nat) : Prop where
  n1 : 1 ≤ N
  s1 : n * N * N ^ n ≤ K1
  s2 : N ^ n ≤ K1
  l1 : K1 * (K2 * 1) + K2 * n * K1 ≤ KL
  l2 : K1 * (K2 * 1) ≤ KL
  f3 : N * (KL * K1) ≤ K3
  f4 : N * KL * K1 ≤ K3
  b1 : N * K1 * 1 ≤ K2
  b2 : N * K1 * n ≤ K2
  k3 : K2 ≤ K3
  n3 : N ≤ K3
  m1 : K3 * K2 + K2 * K3 ≤ M
  m2 : K3 * K2 ≤ M
  m3 : K3 ≤ M
  m4 : KL ≤ M
  m5 : KL * K1 ≤ M
  m6 : K1 ≤ M
  m7 : K2 * n ≤ M
  m8 : K2 * 1 ≤ M
  m9 : n ≤ M
  m10 : N * K1 ≤ M
  m11 : N * KL ≤ M
  m12 : N * N + N * N ≤ M
  o1 : 1 ≤ K1
  o2 : 1 ≤ KL
/-- Perhaps a new cell. -/
structure NbS (E : TypeId) (w0 : World) (φ0 φ : Phi) (o : Option Nat) (W : World) : Prop where
  inv : Inv w0.heap.size w0 φ0 φ W
  o : ∀ x, o = some x → RsSt w0 φ0 φ x #[.bool false, .slice none 0 0, .slice none 0 0] E W
section
variable {E : TypeId} {w0 W w' : World} {φ0 φ φ' : Phi} {o : Option Nat} {x M : Nat}
theorem NbS.call (h : NbS E w0 φ0 φ o W) (hi : Inv W.heap.size W φ φ' w') : NbS E w0 φ0 φ' o w' := ⟨h.inv.call hi, fun x hx => (h.o x hx).call hi⟩
theorem NbS.callB (h : NbS E w0 φ0 φ o W) (hb : Below W.heap.size W w') : NbS E w0 φ0 φ o w' := ⟨h.inv.callB hb, fun x hx => (h.o x hx).callB hb⟩
theorem NbS.drew (h : Hid (NbS E w0 φ0 φ o W)) : Hid (NbS E w0 φ0 φ o W.drew) := Lib.hid (h.out.callB (bdrewN (Below.refl _ W) 1))
theorem NbS.al (h : Hid (NbS E w0 φ0 φ none W)) : Hid (NbS E w0 φ0 φ (some W.heap.size) (W.alloc (.cells #[.bool false, .slice none 0 0, .slice none 0 0] E))) :=
  Lib.hid ⟨h.out.inv.alloc _, fun x hx => by cases hx; exact RsSt.start h.out.inv _ _⟩
theorem NbS.facts (h : Hid (NbS E w0 φ0 φ (some x) W)) : W.cell? ⟨x, 0, none⟩ = some (.bool false) ∧ W.cell? ⟨x, 1, none⟩ = some (.slice none 0 0) ∧ W.cell? ⟨x, 2, none⟩ = some (.slice none 0 0) ∧ W.frozen? ⟨x, 0, none⟩ = false ∧ W.frozen? ⟨x, 1, none⟩ = false ∧ W.frozen? ⟨x, 2, none⟩ = false :=
  have k := (h.out.o x rfl).k
  ⟨k.cell 0, k.cell 1, k.cell 2, k.frz 0, k.frz 1, k.frz 2⟩
theorem NbS.put (h : Hid (NbS E w0 φ0 φ (some x) W)) (u v z : Value) : RsSt w0 φ0 φ x #[u, v, z] E (((W.setCell ⟨x, 0, none⟩ u).setCell ⟨x, 1, none⟩ v).setCell ⟨x, 2, none⟩ z) := (((h.out.o x rfl).set 0 u).set 1 v).set 2 z
theorem NbS.putNew (h : Hid (NbS E w0 φ0 φ none W)) (u v z : Value) : RsSt w0 φ0 φ W.heap.size #[u, v, z] E (W.alloc (.cells #[u, v, z] E)) := RsSt.start h.out.inv _ _
/-- What an exact number's call leaves. -/
def FxN (E : TypeId) (w0 : World) (φ0 φ : Phi) (o : Option Nat) (y : Rat) (N D : Nat) (en : Ending) (w' : World) : Prop :=
  ∃ (g : Bool) (a1 : Option Addr) (k1 c1 : Nat) (a2 : Option Addr) (k2 c2 : Nat) (φ' : Phi), en = .returned (.agg #[.bool g, .slice a1 k1 c1, .slice a2 k2 c2]) ∧ Hid (φ.le φ') ∧ Hid (FfX φ' (.agg #[.bool g, .slice a1 k1 c1, .slice a2 k2 c2]) y N D) ∧ Hid (NbS E w0 φ0 φ' o w')
theorem FxN.of {y : Rat} {N D N' D' : Nat} (hN : N ≤ N') (hDD : D ≤ D') (h : Hid (NbS E w0 φ0 φ o W)) {en : Ending} (hp : FfXP y N D φ W en w') : FxN E w0 φ0 φ o y N' D' en w' := by
  obtain ⟨v, φ', rfl, hi, hv⟩ := hp
  have hv := hv.le hN hDD
  obtain ⟨g, n, d, k1, k2, a1, c1, a2, c2, rfl, _⟩ := hv.open
  exact ⟨g, a1, k1, c1, a2, k2, c2, φ', rfl, Lib.hid hi.le, Lib.hid hv, Lib.hid (h.out.call hi)⟩
theorem SumOf_N (hD : Hid (DivOk M)) (hM : LenB M) {N : Nat} (hN1 : Hid (1 ≤ N)) {n K : Nat} (hK : Hid (n * N * N ^ n ≤ K ∧ N ^ n ≤ K ∧ K ≤ M)) {a : Option Addr} {cap : Nat} {xs : List Rat} {ψ : Phi} (sl : Hid (SlV ψ a cap (xs.map (Fx.mk (N := N) (D := N))))) (hl : Hid (ψ.le φ)) {m : Nat} (hm : Hid (xs.length = m ∧ m ≤ n)) {S : Rat} (hS : Hid (sumQ xs = S)) (h : Hid (NbS E w0 φ0 φ o W)) :
    Calls Tryz.prog 37 #[.slice a m cap] W (FxN E w0 φ0 φ o S K K) := by
  have e1 := Nat.le_trans (sumB_mono (N := N) hN1.out hm.out.2) hK.out.1
  have e2 := Nat.le_trans (powB_mono hN1.out hm.out.2) hK.out.2.1
  exact (SumOf_any hD hM hN1.out (Nat.le_trans e1 hK.out.2.2) (Nat.le_trans e2 hK.out.2.2) h.out.inv.fz (sl.out.mono hl.out) (Lib.hid hm.out.1) hS).mono (fun en w' hp => FxN.of e1 e2 h hp)
theorem FracInt_N {q : Nat} {n : Nat} (hq : Hid (q ≤ n ∧ n ≤ 3000)) (h : Hid (NbS E w0 φ0 φ o W)) :
    Calls Tryz.prog 30 #[.int .i64 (q : Int)] W (FxN E w0 φ0 φ o (((q : Nat) : Int) : Rat) n 1) :=
  (FracInt_any (n := (q : Int)) (by omega) (by have := hq.out; omega) h.out.inv.fz).mono (fun en w' hp => FxN.of (by have := hq.out; omega) (Nat.le_refl _) h hp)
theorem Times_N (hD : Hid (DivOk M)) (hM : LenB M) {v1 v2 : Value} {x y : Rat} {N1 D1 N2 D2 : Nat} {ψ : Phi} (h1 : Hid (FfX ψ v1 x N1 D1)) (hl : Hid (ψ.le φ)) {ψ2 : Phi} (h2 : Hid (FfX ψ2 v2 y N2 D2)) (hl2 : Hid (ψ2.le φ)) (hB : Hid (N1 * N2 ≤ M ∧ D1 * D2 ≤ M ∧ N1 ≤ M ∧ N2 ≤ M)) {N D : Nat} (hN : Hid (N1 * N2 ≤ N ∧ D1 * D2 ≤ D)) (h : Hid (NbS E w0 φ0 φ o W)) :
    Calls Tryz.prog 45 #[v1, v2] W (FxN E w0 φ0 φ o (x * y) N D) :=
  (Times_any hD hM h.out.inv.fz (h1.out.mono hl.out) (h2.out.mono hl2.out) hB.out.1 hB.out.2.1 hB.out.2.2.1 hB.out.2.2.2).mono (fun en w' hp => FxN.of hN.out.1 hN.out.2 h hp)
theorem Minus_N (hD : Hid (DivOk M)) (hM : LenB M) {v1 v2 : Value} {x y : Rat} {N1 D1 N2 D2 : Nat} {ψ : Phi} (h1 : Hid (FfX ψ v1 x N1 D1)) (hl : Hid (ψ.le φ)) {ψ2 : Phi} (h2 : Hid (FfX ψ2 v2 y N2 D2)) (hl2 : Hid (ψ2.le φ)) {N D : Nat} (hN : Hid (N1 * D2 + N2 * D1 ≤ N ∧ D1 * D2 ≤ D ∧ N ≤ M ∧ D ≤ M)) (h : Hid (NbS E w0 φ0 φ o W)) :
    Calls Tryz.prog 85 #[v1, v2] W (FxN E w0 φ0 φ o (x - y) N D) :=
  (Minus_any hD hM h.out.inv.fz (h1.out.mono hl.out) (h2.out.mono hl2.out) (Nat.le_trans hN.out.1 hN.out.2.2.1) (Nat.le_trans hN.out.2.1 hN.out.2.2.2)).mono (fun en w' hp => FxN.of hN.out.1 hN.out.2.1 h hp)
theorem Over_N (hD : Hid (DivOk M)) (hM : LenB M) {v1 v2 : Value} {x y : Rat} {N1 D1 N2 D2 : Nat} {ψ : Phi} (h1 : Hid (FfX ψ v1 x N1 D1)) (hl : Hid (ψ.le φ)) {ψ2 : Phi} (h2 : Hid (FfX ψ2 v2 y N2 D2)) (hl2 : Hid (ψ2.le φ)) (hy : Hid (y ≠ 0)) (hB : Hid (N1 * D2 ≤ M ∧ D1 * N2 ≤ M ∧ D2 ≤ M)) {N D : Nat} (hN : Hid (N1 * D2 ≤ N ∧ D1 * N2 ≤ D)) (h : Hid (NbS E w0 φ0 φ o W)) :
    Calls Tryz.prog 40 #[v1, v2] W (FxN E w0 φ0 φ o (x / y) N D) :=
  (Over_any hD hM h.out.inv.fz (h1.out.mono hl.out) (h2.out.mono hl2.out) hy.out hB.out.1 hB.out.2.1 hB.out.2.2).mono (fun en w' hp => FxN.of hN.out.1 hN.out.2 h hp)
end
end Go.Proofs.YtdlnhmcgnpjooaaGreatDoor

namespace Go.Proofs.YtdlnhmcgnpjooaaGreatDoor
open Go.RowKit
set_option linter.unusedVariables false
set_option linter.unusedSimpArgs false
theorem keepDw {w : World} {a : Addr} {v : Value} (h : w.cell? a = some v) : w.drew.cell? a = some v := h
set_option maxRecDepth 100000 in
set_option maxHeartbeats 8000000 in
theorem spread_any {M N K1 K2 KL K3 : Nat} (hD : Hid (DivOk M)) (hM : LenB M) {n : Nat} (hn3 : n ≤ 3000) (hB : Hid (TrB M N K1 K2 KL K3 n)) {l : List Psn} {mq : Rat} (hn : Hid (l.length = n)) (hpw : Hid (∀ j, j < n → 0 < wgtQ l j)) {xs : List Rat} (hxs : Hid (xs = (List.range n).map (wgtQ l))) {w0 w : World} {φ0 φ : Phi} {b : Nat} {ao : Option Addr} {co g cg : Nat} {gb : Bool} {a1 : Option Addr} {k1 c1 : Nat} {a2 : Option Addr} {k2 c2 e ce : Nat} {rs : List Raw3} {c : List Bool}
    (sl : Hid (SlV φ ao co (xs.map (Fx.mk (N := N) (D := N))))) (hb : Hid (FfX φ (.agg #[.bool gb, .slice a1 k1 c1, .slice a2 k2 c2]) (bndQ l mq) K2 K2)) (hrn : Hid (rs.length = n)) (hcn : Hid (c.length = n))
    (hS : Hid (TqS 93 63 w0 φ0 φ b #[.slice ao n co, .slice (some ⟨g, 0, none⟩) n cg, .bool gb, .slice a1 k1 c1, .slice a2 k2 c2, .slice (some ⟨e, 0, none⟩) n ce, .int .i64 ((cntN c n : Nat) : Int)] g cg rs e ce c w)) :
    Calls Tryz.prog 58 #[.pointer (some ⟨b, 0, none⟩)] w (fun en w' => ∃ (φ' : Phi) (rt : List Raw3), en = .returned (.tuple #[]) ∧ Hid (φ.le φ') ∧ Hid (rt.length = n) ∧ Hid (TqS 93 63 w0 φ0 φ' b #[.slice ao n co, .slice (some ⟨g, 0, none⟩) n cg, .bool gb, .slice a1 k1 c1, .slice a2 k2 c2, .slice (some ⟨e, 0, none⟩) n ce, .int .i64 ((cntN c n : Nat) : Int)] g cg rt e ce c w') ∧ Hid (∀ m, m < n → FfX φ' (rt.getD m raw0).v (trmX l mq c m) K3 K3)) := by
  have HB := hB
  have hxn : Hid (xs.length = n) := Lib.hid (by rw [hxs.out]; simp)
  have hxm : Hid ((xs.map (Fx.mk (N := N) (D := N))).length = n) := Lib.hid (by rw [List.length_map, hxn.out])
  have hxw : Hid (∀ k, k < n → xs.getD k 0 = wgtQ l k) := Lib.hid (fun k hk => by rw [hxs.out]; exact range_getD _ hk)
  have hxS : Hid (sumQ xs = totQ l) := Lib.hid (by rw [hxs.out, sumQ_range]; unfold totQ; rw [hn.out])
  have hoS : Hid (sumQ (othL l c n) = rstQ l c) := Lib.hid (by rw [othL_sum]; unfold rstQ; rw [hn.out])
  have hcn3 : Hid (cntN c n ≤ n ∧ n ≤ 3000) := Lib.hid ⟨cntN_le _ _, hn3⟩
  have hO0 : Hid (OwG w φ φ 63 none 0 ([] : List (Fx N N)) w) := Lib.hid ⟨Inv.start hS.out.r.inv.fz, Own.nil _ _ _ _⟩
  have q0 : w.cell? ⟨b, 0, none⟩ = some (.slice ao n co) := hS.out.r.k.cell 0
  go_enter Tryz.func58, Tryz.ntmps58
  go_wp2
  go_loopw [2, 14] (fun ov iv wr => ∃ (k : Nat) (aq : Option Addr) (cq : Nat) (os : List (Fx N N)) (φ' : Phi), k ≤ n ∧ iv = .int .i64 (k : Int) ∧ ov = .slice aq os.length cq ∧ Hid (os = (othL l c k).map (Fx.mk (N := N) (D := N))) ∧ Hid (OwG w φ φ' 63 aq cq os wr)) (fun _ iv _ => n - (intOf iv).toNat)
  case atStart => exact ⟨0, none, 0, [], φ, Nat.zero_le _, rfl, rfl, Lib.hid rfl, hO0⟩
  case round =>
    clear hO0 q0
    obtain ⟨k, aq, cq, os, φ', hk, rfl, rfl, hos, hO⟩ := hrel
    by_cases hlt : k < n
    · have hlti : (k : Int) < (n : Int) := by omega
      obtain ⟨bo, oo, rfl, fo⟩ := sl.out.fxD hxm hlt
      obtain ⟨g6, a6, k6, c6, a7, k7, c7, hx, f2⟩ := fo k hlt
      obtain ⟨d0, d1, d2⟩ := f2 wr (hO.out.inv.fz.sub hO.out.inv.le)
      rw [fx_getD, hxw.out k hlt] at hx
      have HX := Lib.hid hx
      have hol3 : os.length ≤ 3000 := by
        rw [hos.out, List.length_map]
        have := othL_len (l := l) (c := c) k
        omega
      obtain ⟨φ5, l5, i5, e5⟩ := (Inv.start hO.out.inv.fz).frz (.cells #[.bool g6, .slice a6 k6 c6, .slice a7 k7 c7] 63)
      have HO5 := Lib.hid (hO.out.call i5)
      have HT5 := Lib.hid (hS.out.call HO5.out.inv)
      have E5 := Lib.hid e5
      clear fo f2 hx l5 i5 e5 hO
      go_upto_region 4 with fail
      generalize wr.alloc (.cells #[.bool g6, .slice a6 k6 c6, .slice a7 k7 c7] 63) = wa at *
      generalize wr.heap.size = b4 at *
      clear d0 d1 d2
      have q5 : wa.cell? ⟨b, 5, none⟩ = some (.slice (some ⟨e, 0, none⟩) n ce) := HT5.out.r.k.cell 5
      have q6 := (HT5.out.t.mark hcn hlt).1
      obtain ⟨ik, hik⟩ : ∃ m, c.getD k false = m := ⟨_, rfl⟩
      rw [hik] at q6
      have HIK := Lib.hid hik
      clear hik
      cases ik
      · go_upto_region 5 with fail
        clear q5 q6
        have u0 : wa.cell? ⟨b4, 0, none⟩ = some (.bool g6) := box_cell E5.out φ5.le_refl HO5.out.inv.fz 0
        have u1 : wa.cell? ⟨b4, 1, none⟩ = some (.slice a6 k6 c6) := box_cell E5.out φ5.le_refl HO5.out.inv.fz 1
        have u2 : wa.cell? ⟨b4, 2, none⟩ = some (.slice a7 k7 c7) := box_cell E5.out φ5.le_refl HO5.out.inv.fz 2
        have hin := Lib.hid HO5.out.inv
        have hon := Lib.hid HO5.out.own
        have HREP : Hid (Rep.rep φ5 (⟨wgtQ l k⟩ : Fx N N) [.bool g6, .slice a6 k6 c6, .slice a7 k7 c7]) := Lib.hid (FfX.repF (HX.out.mono HO5.out.inv.le))
        have hnx : Hid (os ++ [⟨wgtQ l k⟩] = (othL l c (k + 1)).map (Fx.mk (N := N) (D := N))) := Lib.hid (by rw [othL_no HIK.out, List.map_append, hos.out]; rfl)
        go_wp2_with (at_builtin; (refine wpList_app1F (α := Fx N N) rfl _ _ 72 rfl (slFx _ _) hin.out aq cq os hon.out #[.bool g6, .slice a6 k6 c6, .slice a7 k7 c7] 63 ⟨wgtQ l k⟩ HREP.out rfl 1 rfl (by omega) ?_; intro a9 c9 w9 hi9 ho9 hg9 hf9; rw [show (os ++ [(⟨wgtQ l k⟩ : Fx N N)]).length = os.length + 1 from by rw [List.length_append]; rfl]))
        go_roundw
        case rel => exact ⟨k + 1, a9, c9, os ++ [⟨wgtQ l k⟩], φ5, by omega, by go_num, by rw [List.length_append]; rfl, hnx, Lib.hid ⟨hi9, ho9⟩⟩
        case measure => (simp [intOf] <;> omega)
      · have hnx : Hid (os = (othL l c (k + 1)).map (Fx.mk (N := N) (D := N))) := Lib.hid (by rw [othL_yes HIK.out, hos.out])
        go_wp2
        go_roundw
        case rel => exact ⟨k + 1, aq, cq, os, φ5, by omega, by go_num, rfl, hnx, HO5⟩
        case measure => (simp [intOf] <;> omega)
    · have hkn : n = k := by omega
      subst hkn
      obtain ⟨φ2, hl2, hi2, hs2, _⟩ := hO.out.own.release hO.out.inv
      rw [hos.out] at hs2
      have hol : Hid ((othL l c n).length = os.length) := Lib.hid (by rw [hos.out, List.length_map])
      have HS2 := Lib.hid hs2
      have HI2 := Lib.hid hi2
      have NB2 : Hid (NbS 63 w φ φ2 none wr) := Lib.hid ⟨hi2, fun x hx => by cases hx⟩
      clear hl2 hs2 hi2 hO hos
      generalize os.length = ol at *
      have hom : Hid ((othL l c n).length = ol ∧ ol ≤ n) := Lib.hid ⟨hol.out, by rw [← hol.out]; exact othL_len n⟩
      clear hol
      go_upto_region 7 with fail
      have hcf := Lib.hid (fun (ψ : Phi) (o : Option Nat) (W : World) (h : Hid (NbS 63 w φ ψ o W)) => (⟨(hS.out.call h.out.inv).r.k.cell 0, (hS.out.call h.out.inv).r.k.cell 2, (hS.out.call h.out.inv).r.k.cell 3, (hS.out.call h.out.inv).r.k.cell 4, (hS.out.call h.out.inv).r.k.cell 6⟩ : W.cell? ⟨b, 0, none⟩ = some (.slice ao n co) ∧ W.cell? ⟨b, 2, none⟩ = some (.bool gb) ∧ W.cell? ⟨b, 3, none⟩ = some (.slice a1 k1 c1) ∧ W.cell? ⟨b, 4, none⟩ = some (.slice a2 k2 c2) ∧ W.cell? ⟨b, 6, none⟩ = some (.int .i64 ((cntN c n : Nat) : Int))))
      have hlb : b < w.heap.size := hS.out.r.k.lt
      have hnb : Hid (∀ ψ o W, Hid (NbS 63 w φ ψ o W) → W.heap.size ≠ b) := Lib.hid (fun ψ o W h => by have := h.out.inv.size; omega)
      have hnx : Hid (∀ ψ x W, Hid (NbS 63 w φ ψ (some x) W) → x ≠ b) := Lib.hid (fun ψ x W h => by have := (h.out.o x rfl).l; omega)
      have NBd := NbS.drew NB2
      have NBa := NbS.drew (NbS.al NB2)
      have nb0 := hnb.out _ _ _ NB2
      obtain ⟨y0, y1, y2, y3, y4⟩ := hcf.out φ2 none wr NB2
      obtain ⟨x0, x1, x2, x3, x4⟩ := hcf.out φ2 none wr.drew NBd
      have HK1 : Hid (n * N * N ^ n ≤ K1 ∧ N ^ n ≤ K1 ∧ K1 ≤ M) := Lib.hid ⟨HB.out.s1, HB.out.s2, HB.out.m6⟩
      have HN1 : Hid (1 ≤ N) := Lib.hid HB.out.n1
      have HXm : Hid (xs.length = n ∧ n ≤ n) := Lib.hid ⟨hxn.out, Nat.le_refl _⟩
      have HT1 : Hid (K2 * n ≤ M ∧ K2 * 1 ≤ M ∧ K2 ≤ M ∧ n ≤ M) := Lib.hid ⟨HB.out.m7, HB.out.m8, by have := HB.out.m8; omega, HB.out.m9⟩
      have HT2 : Hid (K2 * n ≤ K2 * n ∧ K2 * 1 ≤ K2 * 1) := Lib.hid ⟨Nat.le_refl _, Nat.le_refl _⟩
      have HMi : Hid (K1 * (K2 * 1) + K2 * n * K1 ≤ KL ∧ K1 * (K2 * 1) ≤ KL ∧ KL ≤ M ∧ KL ≤ M) := Lib.hid ⟨HB.out.l1, HB.out.l2, HB.out.m4, HB.out.m4⟩
      have hLf : Hid (totQ l - bndQ l mq * (((cntN c n : Nat) : Int) : Rat) = lftQ l mq c) := Lib.hid (by unfold lftQ; rw [hn.out])
      apply wp_region_cutV (fun (i : Nat × Value × Value × Value × Bool × Option Addr × Nat × Nat × Option Addr × Nat × Nat) => [(32, .pointer (some ⟨b, 0, none⟩)), (33, .pointer (some ⟨b, 0, none⟩)), (34, .pointer (some ⟨b, 0, none⟩)), (35, .slice ao n co), (36, i.2.1), (37, .pointer (some ⟨b, 0, none⟩)), (38, .pointer (some ⟨b, 0, none⟩)), (39, .pointer (some ⟨b, 2, none⟩)), (40, .agg #[.bool gb, .slice a1 k1 c1, .slice a2 k2 c2]), (41, .pointer (some ⟨b, 0, none⟩)), (42, .pointer (some ⟨b, 0, none⟩)), (43, .pointer (some ⟨b, 6, none⟩)), (44, .int .i64 ((cntN c n : Nat) : Int)), (45, i.2.2.1), (46, i.2.2.2.1), (47, .agg #[.bool i.2.2.2.2.1, .slice i.2.2.2.2.2.1 i.2.2.2.2.2.2.1 i.2.2.2.2.2.2.2.1, .slice i.2.2.2.2.2.2.2.2.1 i.2.2.2.2.2.2.2.2.2.1 i.2.2.2.2.2.2.2.2.2.2]), (5, .pointer (some ⟨i.1, 0, none⟩))])
        (fun i W => Hid (∃ φ3, φ2.le φ3 ∧ RsSt w φ φ3 i.1 #[.bool i.2.2.2.2.1, .slice i.2.2.2.2.2.1 i.2.2.2.2.2.2.1 i.2.2.2.2.2.2.2.1, .slice i.2.2.2.2.2.2.2.2.1 i.2.2.2.2.2.2.2.2.2.1 i.2.2.2.2.2.2.2.2.2.2] 63 W ∧ FfX φ3 (.agg #[.bool i.2.2.2.2.1, .slice i.2.2.2.2.2.1 i.2.2.2.2.2.2.1 i.2.2.2.2.2.2.2.1, .slice i.2.2.2.2.2.2.2.2.1 i.2.2.2.2.2.2.2.2.2.1 i.2.2.2.2.2.2.2.2.2.2]) (lftQ l mq c) KL KL))
      case h1 =>
        intro KK hKK
        go_region_held3 (fun w' => w'.cell? ⟨b, 0, none⟩ = some (.slice ao n co) ∧ w'.cell? ⟨b, 2, none⟩ = some (.bool gb) ∧ w'.cell? ⟨b, 3, none⟩ = some (.slice a1 k1 c1) ∧ w'.cell? ⟨b, 4, none⟩ = some (.slice a2 k2 c2) ∧ w'.cell? ⟨b, 6, none⟩ = some (.int .i64 ((cntN c n : Nat) : Int))) (first | with_reducible exact ⟨x0, x1, x2, x3, x4⟩ | with_reducible exact ⟨by assumption, by assumption, by assumption, by assumption, by assumption⟩ | with_reducible exact ⟨keepAP (by with_reducible assumption), keepAP (by with_reducible assumption), keepAP (by with_reducible assumption), keepAP (by with_reducible assumption), keepAP (by with_reducible assumption)⟩ | with_reducible exact ⟨keepDw (keepAP (by with_reducible assumption)), keepDw (keepAP (by with_reducible assumption)), keepDw (keepAP (by with_reducible assumption)), keepDw (keepAP (by with_reducible assumption)), keepDw (keepAP (by with_reducible assumption))⟩ | with_reducible exact ⟨keep3 (by with_reducible assumption) (show _ ≠ b by with_reducible assumption), keep3 (by with_reducible assumption) (show _ ≠ b by with_reducible assumption), keep3 (by with_reducible assumption) (show _ ≠ b by with_reducible assumption), keep3 (by with_reducible assumption) (show _ ≠ b by with_reducible assumption), keep3 (by with_reducible assumption) (show _ ≠ b by with_reducible assumption)⟩ | fail) (first
          | ((first | (with_reducible refine (Minus_N hD hM VA (Lib.hid (LB.out.trans LC.out)) VC (Lib.hid φC.le_refl) HMi SC).mono ?_) | (with_reducible refine (Minus_N hD hM VA (Lib.hid (LB.out.trans LC.out)) VC (Lib.hid φC.le_refl) HMi (NbS.al SC)).mono ?_)); rintro en wD ⟨gD, aD, kD, cD, aD', kD', cD', φD, rfl, LD, VD, SD⟩; have nbD := hnb.out _ _ _ SD; (try (have vv := NbS.facts SD; have nxD := hnx.out _ _ _ SD; obtain ⟨v30, v31, v32, v33, v34, v35⟩ := vv)); obtain ⟨r0, r1, r2, r3, r4⟩ := hcf.out φD _ wD SD)
          | ((first | (with_reducible refine (Times_N hD hM hb (Lib.hid (HI2.out.le.trans (LA.out.trans LB.out))) VB (Lib.hid φB.le_refl) HT1 HT2 SB).mono ?_) | (with_reducible refine (Times_N hD hM hb (Lib.hid (HI2.out.le.trans (LA.out.trans LB.out))) VB (Lib.hid φB.le_refl) HT1 HT2 (NbS.al SB)).mono ?_)); rintro en wC ⟨gC, aC, kC, cC, aC', kC', cC', φC, rfl, LC, VC, SC⟩; have nbC := hnb.out _ _ _ SC; (try (have vv := NbS.facts SC; obtain ⟨v20, v21, v22, v23, v24, v25⟩ := vv)); obtain ⟨q0, q1, q2, q3, q4⟩ := hcf.out φC _ wC SC)
          | ((first | (with_reducible refine (FracInt_N hcn3 SA).mono ?_) | (with_reducible refine (FracInt_N hcn3 (NbS.al SA)).mono ?_)); rintro en wB ⟨gB, aB, kB, cB, aB', kB', cB', φB, rfl, LB, VB, SB⟩; have nbB := hnb.out _ _ _ SB; (try (have vv := NbS.facts SB; obtain ⟨v10, v11, v12, v13, v14, v15⟩ := vv)); obtain ⟨p0, p1, p2, p3, p4⟩ := hcf.out φB _ wB SB)
          | ((first | (with_reducible refine (SumOf_N hD hM HN1 HK1 sl (Lib.hid HI2.out.le) HXm hxS NBd).mono ?_) | (with_reducible refine (SumOf_N hD hM HN1 HK1 sl (Lib.hid HI2.out.le) HXm hxS NBa).mono ?_)); rintro en wA ⟨gA, aA, kA, cA, aA', kA', cA', φA, rfl, LA, VA, SA⟩; have nbA := hnb.out _ _ _ SA; (try (have vv := NbS.facts SA; obtain ⟨v00, v01, v02, v03, v04, v05⟩ := vv)); obtain ⟨o0, o1, o2, o3, o4⟩ := hcf.out φA _ wA SA)
          | fail)
        all_goals
          refine onlyN_mk ?_
          have hk9 := fun x W s => hKK.out (x, .agg #[.bool gA, .slice aA kA cA, .slice aA' kA' cA'], .agg #[.bool gB, .slice aB kB cB, .slice aB' kB' cB'], .agg #[.bool gC, .slice aC kC cC, .slice aC' kC' cC'], gD, aD, kD, cD, aD', kD', cD') W s
          simp only [updA, List.foldl_cons, List.foldl_nil, List.setIfInBounds_toArray, List.set_cons_succ, List.set_cons_zero] at hk9
          refine hk9 _ _ (Lib.hid ⟨φD, LA.out.trans (LB.out.trans (LC.out.trans LD.out)), ?_, by have h := VD.out; rw [hLf.out] at h; exact h⟩)
          first
            | with_reducible exact NbS.putNew SD _ _ _
            | with_reducible exact NbS.put SD _ _ _
      case h2 =>
        rintro ⟨b5, vA, vB, vC, gD, aD, kD, cD, aD', kD', cD'⟩ W9 hF9
        simp only [updA, List.foldl_cons, List.foldl_nil, List.setIfInBounds_toArray, List.set_cons_succ, List.set_cons_zero]
        obtain ⟨φ3, hl3, hR3, hV3⟩ := hF9.out
        obtain ⟨φ4, l4, i4, e4, _⟩ := hR3.inv.frzAt hR3.k hR3.l
        have E4 := Lib.hid e4
        have I4 := Lib.hid i4
        have V4 := Lib.hid (hV3.mono l4)
        have L24 := Lib.hid (hl3.trans l4)
        clear hF9 hl3 hR3 hV3 l4 i4 e4 x0 x1 x2 x3 x4 y0 y1 y2 y3 y4 NBd NBa nb0 NB2 hcf hnb hnx hlb
        go_upto_region 9 with (go_at_call 30; (with_reducible refine (FracInt_any (n := 1) (by decide) (by decide) I4.out.fz).mono ?_); rintro en w6 ⟨v6, φ6, rfl, hi6, hv6⟩; have hv6 := hv6.le (Nat.le_refl 1) (Nat.le_refl 1); obtain ⟨gE, nE, mE, kE, kE', aE, cE, aE', cE', rfl, _⟩ := hv6.open; have I6 := Lib.hid (I4.out.call hi6); have L6 := Lib.hid hi6.le; have V6 := Lib.hid hv6; clear hi6 hv6)
        have R6 := Lib.hid (RsSt.start I6.out #[.bool gE, .slice aE kE cE, .slice aE' kE' cE'] 63)
        have L26 := Lib.hid (L24.out.trans L6.out)
        have E46 := Lib.hid (L6.out _ _ E4.out)
        have V46 := Lib.hid (V4.out.mono L6.out)
        have hb56 : Hid (w6.heap.size ≠ b5) := Lib.hid (by exact Ne.symm (Nat.ne_of_lt (block_lt_of_cell (show w6.cell? ⟨b5, 0, none⟩ = some (.bool gD) from box_cell E46.out φ6.le_refl I6.out.fz 0))))
        clear I6 I4 L6 L24 E4 V4
        generalize w6.alloc (.cells #[.bool gE, .slice aE kE cE, .slice aE' kE' cE'] 63) = wb at *
        generalize w6.heap.size = bf at *
        have HBT : Hid (N * (KL * K1) ≤ M ∧ N ≤ M ∧ KL * K1 ≤ M) := Lib.hid ⟨Nat.le_trans HB.out.f3 HB.out.m3, Nat.le_trans HB.out.n3 HB.out.m3, HB.out.m5⟩
        by_cases hol : ol = 0
        · subst hol
          have hall := Lib.hid (othL_nil hom.out.1)
          go_upto_region 11 with fail
          obtain ⟨φx, lx, ix, ex, _⟩ := R6.out.inv.frzAt R6.out.k R6.out.l
          have TS := Lib.hid (hS.out.call ix)
          have HLP := Lib.hid (ix.le)
          have EF := Lib.hid ex
          have HF : Hid (FfX φx (.agg #[.bool gE, .slice aE kE cE, .slice aE' kE' cE']) 1 (KL * K1) (KL * K1)) := Lib.hid ((V6.out.mono lx).le (Nat.mul_le_mul HB.out.o2 HB.out.o1) (Nat.mul_le_mul HB.out.o2 HB.out.o1))
          have HFC : Hid (∀ m, m < n → c.getD m false = false → (1 : Rat) = lftQ l mq c / rstQ l c) := Lib.hid (fun m hm h => by rw [hall.out m hm] at h; exact absurd h (by decide))
          clear lx ix ex R6 V6 V46 E46 L26 hb56 HS2 HI2 hom hall hS
          have q2 : wb.cell? ⟨b, 0, none⟩ = some (.slice ao n co) := TS.out.r.k.cell 0
          go_upto_region 12 with fail
          go_wp2
          go_loopw [61] (fun iv wr => ∃ (k : Nat) (φ'' : Phi) (rt : List Raw3), k ≤ n ∧ iv = .int .i64 (k : Int) ∧ Hid (φx.le φ'') ∧ Hid (rt.length = n) ∧ Hid (TqS 93 63 w0 φ0 φ'' b #[.slice ao n co, .slice (some ⟨g, 0, none⟩) n cg, .bool gb, .slice a1 k1 c1, .slice a2 k2 c2, .slice (some ⟨e, 0, none⟩) n ce, .int .i64 ((cntN c n : Nat) : Int)] g cg rt e ce c wr) ∧ Hid (∀ m, m < k → FfX φ'' (rt.getD m raw0).v (trmX l mq c m) K3 K3)) (fun iv _ => n - (intOf iv).toNat)
          case atStart => exact ⟨0, φx, rs, Nat.zero_le _, rfl, Lib.hid (φx.le_refl), hrn, TS, Lib.hid (fun m hm => absurd hm (Nat.not_lt_zero m))⟩
          case round =>
            clear TS q2
            obtain ⟨k, φ'', rt, hk, rfl, hle, hrt, hT, hW⟩ := hrel
            by_cases hlt : k < n
            · have hlti : (k : Int) < (n : Int) := by omega
              obtain ⟨bo, oo, rfl, fo⟩ := sl.out.fxD hxm hlt
              obtain ⟨g6, a6, k6, c6, a7, k7, c7, hx, f2⟩ := fo k hlt
              obtain ⟨d0, d1, d2⟩ := f2 wr (hT.out.r.inv.fz.sub (HLP.out.trans hle.out))
              rw [fx_getD, hxw.out k hlt] at hx
              have HX := Lib.hid hx
              obtain ⟨φ5, l5, i5, e5⟩ := (Inv.start hT.out.r.inv.fz).frz (.cells #[.bool g6, .slice a6 k6 c6, .slice a7 k7 c7] 63)
              have HT5 := Lib.hid (hT.out.call i5)
              have L5 := Lib.hid l5
              have E5 := Lib.hid e5
              have HL5 := Lib.hid (hle.out.trans l5)
              clear fo f2 hx l5 i5 e5 hT
              go_upto_region 14 with fail
              generalize wr.alloc (.cells #[.bool g6, .slice a6 k6 c6, .slice a7 k7 c7] 63) = wa at *
              generalize wr.heap.size = b8 at *
              clear d0 d1 d2
              have q5 : wa.cell? ⟨b, 5, none⟩ = some (.slice (some ⟨e, 0, none⟩) n ce) := HT5.out.r.k.cell 5
              have q6 := (HT5.out.t.mark hcn hlt).1
              have hn1 : Hid (g ≠ b) := Lib.hid HT5.out.n1
              have hg8 : Hid (φ5 g = none) := Lib.hid HT5.out.t.gl.2.1
              have hn8 : Hid (g ≠ b8) := Lib.hid (fun h => by have := hg8.out; rw [h, E5.out] at this; exact absurd this (by simp))
              have hn6 : Hid (g ≠ bf) := Lib.hid (fun h => by have := hg8.out; rw [h, HL5.out _ _ EF.out] at this; exact absurd this (by simp))
              have hTd : Hid (TqS 93 63 w0 φ0 φ5 b #[.slice (some ⟨bo, oo, none⟩) n co, .slice (some ⟨g, 0, none⟩) n cg, .bool gb, .slice a1 k1 c1, .slice a2 k2 c2, .slice (some ⟨e, 0, none⟩) n ce, .int .i64 ((cntN c n : Nat) : Int)] g cg rt e ce c wa.drew) := Lib.hid HT5.out.drew
              obtain ⟨ik, hik⟩ : ∃ m, c.getD k false = m := ⟨_, rfl⟩
              rw [hik] at q6
              have HIK := Lib.hid hik
              clear hik
              have hWn := Lib.hid (fun (φ9 : Phi) (hl9 : Hid (φ5.le φ9)) (r : Raw3) (hr : Hid (FfX φ9 r.v (trmX l mq c k) K3 K3)) => (fun m hm => by
                by_cases em : m = k
                · subst em
                  rw [show (rt.set m r).getD m raw0 = r by simp [List.getD_eq_getElem?_getD, List.getElem?_set, hrt.out, hlt]]
                  exact hr.out
                · rw [show (rt.set k r).getD m raw0 = rt.getD m raw0 by simp [List.getD_eq_getElem?_getD, List.getElem?_set, Ne.symm em]]
                  exact (hW.out m (by omega)).mono (L5.out.trans hl9.out) : ∀ m, m < k + 1 → FfX φ9 ((rt.set k r).getD m raw0).v (trmX l mq c m) K3 K3))
              cases ik
              · go_upto_region 16 with fail
                clear q5 q6
                have hbx := Lib.hid (trm_no (m := mq) (l := l) HIK.out)
                have hcf := Lib.hid (fun (ψ : Phi) (W : World) (hl : Hid (φ5.le ψ)) (h : Hid (TqS 93 63 w0 φ0 ψ b #[.slice (some ⟨bo, oo, none⟩) n co, .slice (some ⟨g, 0, none⟩) n cg, .bool gb, .slice a1 k1 c1, .slice a2 k2 c2, .slice (some ⟨e, 0, none⟩) n ce, .int .i64 ((cntN c n : Nat) : Int)] g cg rt e ce c W)) => (by
                  have h2 := h.out.t.num hrt hlt
                  exact ⟨h.out.r.k.cell 1, box_cell E5.out hl.out h.out.r.inv.fz 0, box_cell E5.out hl.out h.out.r.inv.fz 1, box_cell E5.out hl.out h.out.r.inv.fz 2, box_cell EF.out (HL5.out.trans hl.out) h.out.r.inv.fz 0, box_cell EF.out (HL5.out.trans hl.out) h.out.r.inv.fz 1, box_cell EF.out (HL5.out.trans hl.out) h.out.r.inv.fz 2, ⟨_, h2.1⟩, ⟨_, h2.2.1⟩, ⟨_, h2.2.2.1⟩, h2.2.2.2 _, h2.2.2.2 _, h2.2.2.2 _⟩ : W.cell? ⟨b, 1, none⟩ = some (.slice (some ⟨g, 0, none⟩) n cg) ∧ W.cell? ⟨b8, 0, none⟩ = some (.bool g6) ∧ W.cell? ⟨b8, 1, none⟩ = some (.slice a6 k6 c6) ∧ W.cell? ⟨b8, 2, none⟩ = some (.slice a7 k7 c7) ∧ W.cell? ⟨bf, 0, none⟩ = some (.bool gE) ∧ W.cell? ⟨bf, 1, none⟩ = some (.slice aE kE cE) ∧ W.cell? ⟨bf, 2, none⟩ = some (.slice aE' kE' cE') ∧ (∃ v, W.cell? ⟨g, k * 3, none⟩ = some v) ∧ (∃ v, W.cell? ⟨g, k * 3 + 1, none⟩ = some v) ∧ (∃ v, W.cell? ⟨g, k * 3 + 2, none⟩ = some v) ∧ W.frozen? ⟨g, k * 3, none⟩ = false ∧ W.frozen? ⟨g, k * 3 + 1, none⟩ = false ∧ W.frozen? ⟨g, k * 3 + 2, none⟩ = false))
                have LR := Lib.hid φ5.le_refl
                obtain ⟨p0, p1, p2, p3, p4, p5, p6, _⟩ := hcf.out φ5 wa LR HT5
                obtain ⟨x0, x1, x2, x3, x4, x5, x6, _⟩ := hcf.out φ5 wa.drew LR hTd
                have HFK := Lib.hid (HF.out.mono HL5.out)
                have HXK := Lib.hid (HX.out.mono (HLP.out.trans HL5.out))
                go_region_held3 (fun w' => w'.cell? ⟨b, 1, none⟩ = some (.slice (some ⟨g, 0, none⟩) n cg) ∧ w'.cell? ⟨b8, 0, none⟩ = some (.bool g6) ∧ w'.cell? ⟨b8, 1, none⟩ = some (.slice a6 k6 c6) ∧ w'.cell? ⟨b8, 2, none⟩ = some (.slice a7 k7 c7) ∧ w'.cell? ⟨bf, 0, none⟩ = some (.bool gE) ∧ w'.cell? ⟨bf, 1, none⟩ = some (.slice aE kE cE) ∧ w'.cell? ⟨bf, 2, none⟩ = some (.slice aE' kE' cE')) (first | with_reducible exact ⟨x0, x1, x2, x3, x4, x5, x6⟩ | with_reducible exact ⟨by assumption, by assumption, by assumption, by assumption, by assumption, by assumption, by assumption⟩ | with_reducible exact ⟨keepO (by with_reducible assumption) hn1.out, keepO (by with_reducible assumption) hn8.out, keepO (by with_reducible assumption) hn8.out, keepO (by with_reducible assumption) hn8.out, keepO (by with_reducible assumption) hn6.out, keepO (by with_reducible assumption) hn6.out, keepO (by with_reducible assumption) hn6.out⟩ | fail) (first
                  | ((with_reducible refine (Times_any hD hM hTd.out.r.inv.fz HXK.out HFK.out HBT.out.1 HBT.out.1 HBT.out.2.1 HBT.out.2.2).mono ?_); rintro en w7 ⟨v7, φ7, rfl, hi7, hv7⟩; have hv7 := hv7.le HB.out.f3 HB.out.f3; obtain ⟨gA, nA, mA, kA, kA', aA, cA, aA', cA', rfl, _⟩ := hv7.open; have ST7 := Lib.hid (hTd.out.call hi7); have L7 := Lib.hid hi7.le; have V7 := Lib.hid hv7; obtain ⟨o0, o1, o2, o3, o4, o5, o6, ⟨_, o7⟩, ⟨_, o8⟩, ⟨_, o9⟩, o10, o11, o12⟩ := hcf.out φ7 w7 L7 ST7; clear hi7 hv7)
                  | fail)
                all_goals
                  clear p0 p1 p2 p3 p4 p5 p6 x0 x1 x2 x3 x4 x5 x6 hcf
                  have ST8 := Lib.hid (ST7.out.setO hrt hlt gA aA kA cA aA' kA' cA')
                  have hcI := Lib.hid (HFC.out k hlt HIK.out)
                  have hr9 : Hid (FfX φ7 (Raw3.v ⟨gA, aA, kA, cA, aA', kA', cA'⟩) (trmX l mq c k) K3 K3) := Lib.hid (by rw [hbx.out, ← hcI.out]; exact V7.out)
                  have hW9 := Lib.hid (hWn.out φ7 L7 _ hr9)
                  clear o0 o1 o2 o3 o4 o5 o6 o7 o8 o9 o10 o11 o12
                  go_wp2
                  go_roundw
                  case rel => exact ⟨k + 1, φ7, _, by omega, by go_num, Lib.hid (HL5.out.trans L7.out), Lib.hid (by rw [List.length_set]; exact hrt.out), ST8, hW9⟩
                  case measure => (simp [intOf] <;> omega)
              · go_upto_region 15 with fail
                clear q5 q6
                have hbx := Lib.hid (trm_yes (m := mq) (l := l) HIK.out)
                have hcf := Lib.hid (fun (W : World) (h : Hid (TqS 93 63 w0 φ0 φ5 b #[.slice (some ⟨bo, oo, none⟩) n co, .slice (some ⟨g, 0, none⟩) n cg, .bool gb, .slice a1 k1 c1, .slice a2 k2 c2, .slice (some ⟨e, 0, none⟩) n ce, .int .i64 ((cntN c n : Nat) : Int)] g cg rt e ce c W)) => (by
                  have h2 := h.out.t.num hrt hlt
                  exact ⟨h.out.r.k.cell 1, h.out.r.k.cell 2, h.out.r.k.cell 3, h.out.r.k.cell 4, ⟨_, h2.1⟩, ⟨_, h2.2.1⟩, ⟨_, h2.2.2.1⟩, h2.2.2.2 _, h2.2.2.2 _, h2.2.2.2 _⟩ : W.cell? ⟨b, 1, none⟩ = some (.slice (some ⟨g, 0, none⟩) n cg) ∧ W.cell? ⟨b, 2, none⟩ = some (.bool gb) ∧ W.cell? ⟨b, 3, none⟩ = some (.slice a1 k1 c1) ∧ W.cell? ⟨b, 4, none⟩ = some (.slice a2 k2 c2) ∧ (∃ v, W.cell? ⟨g, k * 3, none⟩ = some v) ∧ (∃ v, W.cell? ⟨g, k * 3 + 1, none⟩ = some v) ∧ (∃ v, W.cell? ⟨g, k * 3 + 2, none⟩ = some v) ∧ W.frozen? ⟨g, k * 3, none⟩ = false ∧ W.frozen? ⟨g, k * 3 + 1, none⟩ = false ∧ W.frozen? ⟨g, k * 3 + 2, none⟩ = false))
                obtain ⟨x0, x1, x2, x3, ⟨_, x4⟩, ⟨_, x5⟩, ⟨_, x6⟩, x7, x8, x9⟩ := hcf.out wa.drew hTd
                obtain ⟨p0, p1, p2, p3, ⟨_, p4⟩, ⟨_, p5⟩, ⟨_, p6⟩, p7, p8, p9⟩ := hcf.out wa HT5
                go_still_tail 10, (by kernel_rfl)
                change wpList _ _ _ _ _ wa.drew
                clear p0 p1 p2 p3 p4 p5 p6 p7 p8 p9 hcf HT5
                generalize wa.drew = wd at *
                have ST8 := Lib.hid (hTd.out.setO hrt hlt gb a1 k1 c1 a2 k2 c2)
                have hr9 : Hid (FfX φ5 (Raw3.v ⟨gb, a1, k1, c1, a2, k2, c2⟩) (trmX l mq c k) K3 K3) := Lib.hid (by rw [hbx.out]; exact (hb.out.le HB.out.k3 HB.out.k3).mono (HLP.out.trans HL5.out))
                have hW9 := Lib.hid (hWn.out φ5 (Lib.hid φ5.le_refl) _ hr9)
                go_wp2
                go_roundw
                case rel => exact ⟨k + 1, φ5, _, by omega, by go_num, HL5, Lib.hid (by rw [List.length_set]; exact hrt.out), ST8, hW9⟩
                case measure => (simp [intOf] <;> omega)
            · obtain rfl : k = n := by omega
              go_wp2
              go_end0
              exact ⟨φ'', rt, rfl, Lib.hid (HLP.out.trans hle.out), hrt, hT, hW⟩
        · have hol1 : 0 < ol := by omega
          have hri : (ol : Int) > 0 := by omega
          have hr0 : Hid (rstQ l c ≠ 0) := Lib.hid (by
            obtain ⟨m, h1, h2⟩ := othL_ex (l := l) (c := c) (by rw [hom.out.1]; exact hol1)
            have h3 := rst_pos (l := l) (fun j hj => hpw.out j (by rw [← hn.out]; exact hj)) (by rw [hn.out]; exact h1) h2
            intro e
            rw [e] at h3
            exact absurd h3 (by decide))
          go_upto_region 10 with fail
          have R6d : Hid (RsSt w φ φ6 bf #[.bool gE, .slice aE kE cE, .slice aE' kE' cE'] 63 wb.drew) := Lib.hid (R6.out.callB (bdrewN (Below.refl _ wb) 1))
          have hcf := Lib.hid (fun (ψ : Phi) (W : World) (hl : Hid (φ6.le ψ)) (hf : Fz ψ W) => (⟨box_cell E46.out hl.out hf 0, box_cell E46.out hl.out hf 1, box_cell E46.out hl.out hf 2⟩ : W.cell? ⟨b5, 0, none⟩ = some (.bool gD) ∧ W.cell? ⟨b5, 1, none⟩ = some (.slice aD kD cD) ∧ W.cell? ⟨b5, 2, none⟩ = some (.slice aD' kD' cD')))
          have LR := Lib.hid φ6.le_refl
          obtain ⟨y0, y1, y2⟩ := hcf.out φ6 wb LR R6.out.inv.fz
          obtain ⟨x0, x1, x2⟩ := hcf.out φ6 wb.drew LR R6d.out.inv.fz
          have HOv : Hid (KL * K1 ≤ M ∧ KL * K1 ≤ M ∧ K1 ≤ M) := Lib.hid ⟨HB.out.m5, HB.out.m5, HB.out.m6⟩
          have e1 := Lib.hid (Nat.le_trans (sumB_mono (N := N) HN1.out hom.out.2) HK1.out.1)
          have e2 := Lib.hid (Nat.le_trans (powB_mono HN1.out hom.out.2) HK1.out.2.1)
          have hoL : Hid ((othL l c n).length = ol) := Lib.hid hom.out.1
          go_region_held3 (fun w' => w'.cell? ⟨b5, 0, none⟩ = some (.bool gD) ∧ w'.cell? ⟨b5, 1, none⟩ = some (.slice aD kD cD) ∧ w'.cell? ⟨b5, 2, none⟩ = some (.slice aD' kD' cD')) (first | with_reducible exact ⟨x0, x1, x2⟩ | with_reducible exact ⟨by assumption, by assumption, by assumption⟩ | with_reducible exact ⟨keep3 (by with_reducible assumption) hb56.out, keep3 (by with_reducible assumption) hb56.out, keep3 (by with_reducible assumption) hb56.out⟩ | fail) (first
            | ((with_reducible refine (Over_any hD hM RA.out.inv.fz (V46.out.mono LA.out) VA.out hr0.out HOv.out.1 HOv.out.2.1 HOv.out.2.2).mono ?_); rintro en wB ⟨vB', φB, rfl, hiB, hvB⟩; obtain ⟨gf, nF, mF, kf, kf', af, cf, af', cf', rfl, _⟩ := hvB.open; have RB := Lib.hid (RA.out.call hiB); have VF := Lib.hid hvB; have LB := Lib.hid (LA.out.trans hiB.le); obtain ⟨o0, o1, o2⟩ := hcf.out φB wB LB RB.out.inv.fz; have s0 : wB.cell? ⟨bf, 0, none⟩ = some (.bool gE) := RB.out.k.cell 0; have s1 : wB.cell? ⟨bf, 1, none⟩ = some (.slice aE kE cE) := RB.out.k.cell 1; have s2 : wB.cell? ⟨bf, 2, none⟩ = some (.slice aE' kE' cE') := RB.out.k.cell 2; have s3 := RB.out.k.frz 0; have s4 := RB.out.k.frz 1; have s5 := RB.out.k.frz 2; clear hiB hvB)
            | ((with_reducible refine (SumOf_any hD hM HN1.out (Nat.le_trans e1.out HK1.out.2.2) (Nat.le_trans e2.out HK1.out.2.2) R6d.out.inv.fz (HS2.out.mono L26.out) hoL hoS).mono ?_); rintro en wA ⟨vA', φA, rfl, hiA, hvA⟩; have hvA := hvA.le e1.out e2.out; have RA := Lib.hid (R6d.out.call hiA); have VA := Lib.hid hvA; have LA := Lib.hid hiA.le; obtain ⟨p0, p1, p2⟩ := hcf.out φA wA LA RA.out.inv.fz; clear hiA hvA)
            | fail)
          all_goals
            have R7 := Lib.hid (((RB.out.set 0 (.bool gf)).set 1 (.slice af kf cf)).set 2 (.slice af' kf' cf'))
            clear x0 x1 x2 y0 y1 y2 o0 o1 o2 p0 p1 p2 s0 s1 s2 s3 s4 s5 hcf
            generalize (((wB.setCell ⟨bf, 0, none⟩ (.bool gf)).setCell ⟨bf, 1, none⟩ (.slice af kf cf)).setCell ⟨bf, 2, none⟩ (.slice af' kf' cf')) = wc at *
            have R8 : Hid (RsSt w φ φB bf #[.bool gf, .slice af kf cf, .slice af' kf' cf'] 63 wc) := R7
            obtain ⟨φx, lx, ix, ex, _⟩ := R8.out.inv.frzAt R8.out.k R8.out.l
            have TS := Lib.hid (hS.out.call ix)
            have HLP := Lib.hid (ix.le)
            have EF := Lib.hid ex
            obtain ⟨fq, hfq⟩ : ∃ q, lftQ l mq c / rstQ l c = q := ⟨_, rfl⟩
            have HF : Hid (FfX φx (.agg #[.bool gf, .slice af kf cf, .slice af' kf' cf']) fq (KL * K1) (KL * K1)) := Lib.hid (by rw [← hfq]; exact VF.out.mono lx)
            have HFC : Hid (∀ m, m < n → c.getD m false = false → fq = lftQ l mq c / rstQ l c) := Lib.hid (fun m hm h => hfq.symm)
            clear hfq
            clear lx ix ex R6 R6d R7 R8 V6 V46 E46 L26 hb56 HS2 HI2 hom hS RA RB VA VF
            have q2 : wc.cell? ⟨b, 0, none⟩ = some (.slice ao n co) := TS.out.r.k.cell 0
            go_upto_region 12 with fail
            go_wp2
            go_loopw [61] (fun iv wr => ∃ (k : Nat) (φ'' : Phi) (rt : List Raw3), k ≤ n ∧ iv = .int .i64 (k : Int) ∧ Hid (φx.le φ'') ∧ Hid (rt.length = n) ∧ Hid (TqS 93 63 w0 φ0 φ'' b #[.slice ao n co, .slice (some ⟨g, 0, none⟩) n cg, .bool gb, .slice a1 k1 c1, .slice a2 k2 c2, .slice (some ⟨e, 0, none⟩) n ce, .int .i64 ((cntN c n : Nat) : Int)] g cg rt e ce c wr) ∧ Hid (∀ m, m < k → FfX φ'' (rt.getD m raw0).v (trmX l mq c m) K3 K3)) (fun iv _ => n - (intOf iv).toNat)
            case atStart => exact ⟨0, φx, rs, Nat.zero_le _, rfl, Lib.hid (φx.le_refl), hrn, TS, Lib.hid (fun m hm => absurd hm (Nat.not_lt_zero m))⟩
            case round =>
              clear TS q2
              obtain ⟨k, φ'', rt, hk, rfl, hle, hrt, hT, hW⟩ := hrel
              by_cases hlt : k < n
              · have hlti : (k : Int) < (n : Int) := by omega
                obtain ⟨bo, oo, rfl, fo⟩ := sl.out.fxD hxm hlt
                obtain ⟨g6, a6, k6, c6, a7, k7, c7, hx, f2⟩ := fo k hlt
                obtain ⟨d0, d1, d2⟩ := f2 wr (hT.out.r.inv.fz.sub (HLP.out.trans hle.out))
                rw [fx_getD, hxw.out k hlt] at hx
                have HX := Lib.hid hx
                obtain ⟨φ5, l5, i5, e5⟩ := (Inv.start hT.out.r.inv.fz).frz (.cells #[.bool g6, .slice a6 k6 c6, .slice a7 k7 c7] 63)
                have HT5 := Lib.hid (hT.out.call i5)
                have L5 := Lib.hid l5
                have E5 := Lib.hid e5
                have HL5 := Lib.hid (hle.out.trans l5)
                clear fo f2 hx l5 i5 e5 hT
                go_upto_region 14 with fail
                generalize wr.alloc (.cells #[.bool g6, .slice a6 k6 c6, .slice a7 k7 c7] 63) = wa at *
                generalize wr.heap.size = b8 at *
                clear d0 d1 d2
                have q5 : wa.cell? ⟨b, 5, none⟩ = some (.slice (some ⟨e, 0, none⟩) n ce) := HT5.out.r.k.cell 5
                have q6 := (HT5.out.t.mark hcn hlt).1
                have hn1 : Hid (g ≠ b) := Lib.hid HT5.out.n1
                have hg8 : Hid (φ5 g = none) := Lib.hid HT5.out.t.gl.2.1
                have hn8 : Hid (g ≠ b8) := Lib.hid (fun h => by have := hg8.out; rw [h, E5.out] at this; exact absurd this (by simp))
                have hn6 : Hid (g ≠ bf) := Lib.hid (fun h => by have := hg8.out; rw [h, HL5.out _ _ EF.out] at this; exact absurd this (by simp))
                have hTd : Hid (TqS 93 63 w0 φ0 φ5 b #[.slice (some ⟨bo, oo, none⟩) n co, .slice (some ⟨g, 0, none⟩) n cg, .bool gb, .slice a1 k1 c1, .slice a2 k2 c2, .slice (some ⟨e, 0, none⟩) n ce, .int .i64 ((cntN c n : Nat) : Int)] g cg rt e ce c wa.drew) := Lib.hid HT5.out.drew
                obtain ⟨ik, hik⟩ : ∃ m, c.getD k false = m := ⟨_, rfl⟩
                rw [hik] at q6
                have HIK := Lib.hid hik
                clear hik
                have hWn := Lib.hid (fun (φ9 : Phi) (hl9 : Hid (φ5.le φ9)) (r : Raw3) (hr : Hid (FfX φ9 r.v (trmX l mq c k) K3 K3)) => (fun m hm => by
                  by_cases em : m = k
                  · subst em
                    rw [show (rt.set m r).getD m raw0 = r by simp [List.getD_eq_getElem?_getD, List.getElem?_set, hrt.out, hlt]]
                    exact hr.out
                  · rw [show (rt.set k r).getD m raw0 = rt.getD m raw0 by simp [List.getD_eq_getElem?_getD, List.getElem?_set, Ne.symm em]]
                    exact (hW.out m (by omega)).mono (L5.out.trans hl9.out) : ∀ m, m < k + 1 → FfX φ9 ((rt.set k r).getD m raw0).v (trmX l mq c m) K3 K3))
                cases ik
                · go_upto_region 16 with fail
                  clear q5 q6
                  have hbx := Lib.hid (trm_no (m := mq) (l := l) HIK.out)
                  have hcf := Lib.hid (fun (ψ : Phi) (W : World) (hl : Hid (φ5.le ψ)) (h : Hid (TqS 93 63 w0 φ0 ψ b #[.slice (some ⟨bo, oo, none⟩) n co, .slice (some ⟨g, 0, none⟩) n cg, .bool gb, .slice a1 k1 c1, .slice a2 k2 c2, .slice (some ⟨e, 0, none⟩) n ce, .int .i64 ((cntN c n : Nat) : Int)] g cg rt e ce c W)) => (by
                    have h2 := h.out.t.num hrt hlt
                    exact ⟨h.out.r.k.cell 1, box_cell E5.out hl.out h.out.r.inv.fz 0, box_cell E5.out hl.out h.out.r.inv.fz 1, box_cell E5.out hl.out h.out.r.inv.fz 2, box_cell EF.out (HL5.out.trans hl.out) h.out.r.inv.fz 0, box_cell EF.out (HL5.out.trans hl.out) h.out.r.inv.fz 1, box_cell EF.out (HL5.out.trans hl.out) h.out.r.inv.fz 2, ⟨_, h2.1⟩, ⟨_, h2.2.1⟩, ⟨_, h2.2.2.1⟩, h2.2.2.2 _, h2.2.2.2 _, h2.2.2.2 _⟩ : W.cell? ⟨b, 1, none⟩ = some (.slice (some ⟨g, 0, none⟩) n cg) ∧ W.cell? ⟨b8, 0, none⟩ = some (.bool g6) ∧ W.cell? ⟨b8, 1, none⟩ = some (.slice a6 k6 c6) ∧ W.cell? ⟨b8, 2, none⟩ = some (.slice a7 k7 c7) ∧ W.cell? ⟨bf, 0, none⟩ = some (.bool gf) ∧ W.cell? ⟨bf, 1, none⟩ = some (.slice af kf cf) ∧ W.cell? ⟨bf, 2, none⟩ = some (.slice af' kf' cf') ∧ (∃ v, W.cell? ⟨g, k * 3, none⟩ = some v) ∧ (∃ v, W.cell? ⟨g, k * 3 + 1, none⟩ = some v) ∧ (∃ v, W.cell? ⟨g, k * 3 + 2, none⟩ = some v) ∧ W.frozen? ⟨g, k * 3, none⟩ = false ∧ W.frozen? ⟨g, k * 3 + 1, none⟩ = false ∧ W.frozen? ⟨g, k * 3 + 2, none⟩ = false))
                  have LR := Lib.hid φ5.le_refl
                  obtain ⟨p0, p1, p2, p3, p4, p5, p6, _⟩ := hcf.out φ5 wa LR HT5
                  obtain ⟨x0, x1, x2, x3, x4, x5, x6, _⟩ := hcf.out φ5 wa.drew LR hTd
                  have HFK := Lib.hid (HF.out.mono HL5.out)
                  have HXK := Lib.hid (HX.out.mono (HLP.out.trans HL5.out))
                  go_region_held3 (fun w' => w'.cell? ⟨b, 1, none⟩ = some (.slice (some ⟨g, 0, none⟩) n cg) ∧ w'.cell? ⟨b8, 0, none⟩ = some (.bool g6) ∧ w'.cell? ⟨b8, 1, none⟩ = some (.slice a6 k6 c6) ∧ w'.cell? ⟨b8, 2, none⟩ = some (.slice a7 k7 c7) ∧ w'.cell? ⟨bf, 0, none⟩ = some (.bool gf) ∧ w'.cell? ⟨bf, 1, none⟩ = some (.slice af kf cf) ∧ w'.cell? ⟨bf, 2, none⟩ = some (.slice af' kf' cf')) (first | with_reducible exact ⟨x0, x1, x2, x3, x4, x5, x6⟩ | with_reducible exact ⟨by assumption, by assumption, by assumption, by assumption, by assumption, by assumption, by assumption⟩ | with_reducible exact ⟨keepO (by with_reducible assumption) hn1.out, keepO (by with_reducible assumption) hn8.out, keepO (by with_reducible assumption) hn8.out, keepO (by with_reducible assumption) hn8.out, keepO (by with_reducible assumption) hn6.out, keepO (by with_reducible assumption) hn6.out, keepO (by with_reducible assumption) hn6.out⟩ | fail) (first
                    | ((with_reducible refine (Times_any hD hM hTd.out.r.inv.fz HXK.out HFK.out HBT.out.1 HBT.out.1 HBT.out.2.1 HBT.out.2.2).mono ?_); rintro en w7 ⟨v7, φ7, rfl, hi7, hv7⟩; have hv7 := hv7.le HB.out.f3 HB.out.f3; obtain ⟨gA, nA, mA, kA, kA', aA, cA, aA', cA', rfl, _⟩ := hv7.open; have ST7 := Lib.hid (hTd.out.call hi7); have L7 := Lib.hid hi7.le; have V7 := Lib.hid hv7; obtain ⟨o0, o1, o2, o3, o4, o5, o6, ⟨_, o7⟩, ⟨_, o8⟩, ⟨_, o9⟩, o10, o11, o12⟩ := hcf.out φ7 w7 L7 ST7; clear hi7 hv7)
                    | fail)
                  all_goals
                    clear p0 p1 p2 p3 p4 p5 p6 x0 x1 x2 x3 x4 x5 x6 hcf
                    have ST8 := Lib.hid (ST7.out.setO hrt hlt gA aA kA cA aA' kA' cA')
                    have hcI := Lib.hid (HFC.out k hlt HIK.out)
                    have hr9 : Hid (FfX φ7 (Raw3.v ⟨gA, aA, kA, cA, aA', kA', cA'⟩) (trmX l mq c k) K3 K3) := Lib.hid (by rw [hbx.out, ← hcI.out]; exact V7.out)
                    have hW9 := Lib.hid (hWn.out φ7 L7 _ hr9)
                    clear o0 o1 o2 o3 o4 o5 o6 o7 o8 o9 o10 o11 o12
                    go_wp2
                    go_roundw
                    case rel => exact ⟨k + 1, φ7, _, by omega, by go_num, Lib.hid (HL5.out.trans L7.out), Lib.hid (by rw [List.length_set]; exact hrt.out), ST8, hW9⟩
                    case measure => (simp [intOf] <;> omega)
                · go_upto_region 15 with fail
                  clear q5 q6
                  have hbx := Lib.hid (trm_yes (m := mq) (l := l) HIK.out)
                  have hcf := Lib.hid (fun (W : World) (h : Hid (TqS 93 63 w0 φ0 φ5 b #[.slice (some ⟨bo, oo, none⟩) n co, .slice (some ⟨g, 0, none⟩) n cg, .bool gb, .slice a1 k1 c1, .slice a2 k2 c2, .slice (some ⟨e, 0, none⟩) n ce, .int .i64 ((cntN c n : Nat) : Int)] g cg rt e ce c W)) => (by
                    have h2 := h.out.t.num hrt hlt
                    exact ⟨h.out.r.k.cell 1, h.out.r.k.cell 2, h.out.r.k.cell 3, h.out.r.k.cell 4, ⟨_, h2.1⟩, ⟨_, h2.2.1⟩, ⟨_, h2.2.2.1⟩, h2.2.2.2 _, h2.2.2.2 _, h2.2.2.2 _⟩ : W.cell? ⟨b, 1, none⟩ = some (.slice (some ⟨g, 0, none⟩) n cg) ∧ W.cell? ⟨b, 2, none⟩ = some (.bool gb) ∧ W.cell? ⟨b, 3, none⟩ = some (.slice a1 k1 c1) ∧ W.cell? ⟨b, 4, none⟩ = some (.slice a2 k2 c2) ∧ (∃ v, W.cell? ⟨g, k * 3, none⟩ = some v) ∧ (∃ v, W.cell? ⟨g, k * 3 + 1, none⟩ = some v) ∧ (∃ v, W.cell? ⟨g, k * 3 + 2, none⟩ = some v) ∧ W.frozen? ⟨g, k * 3, none⟩ = false ∧ W.frozen? ⟨g, k * 3 + 1, none⟩ = false ∧ W.frozen? ⟨g, k * 3 + 2, none⟩ = false))
                  obtain ⟨x0, x1, x2, x3, ⟨_, x4⟩, ⟨_, x5⟩, ⟨_, x6⟩, x7, x8, x9⟩ := hcf.out wa.drew hTd
                  obtain ⟨p0, p1, p2, p3, ⟨_, p4⟩, ⟨_, p5⟩, ⟨_, p6⟩, p7, p8, p9⟩ := hcf.out wa HT5
                  go_still_tail 10, (by kernel_rfl)
                  change wpList _ _ _ _ _ wa.drew
                  clear p0 p1 p2 p3 p4 p5 p6 p7 p8 p9 hcf HT5
                  generalize wa.drew = wd at *
                  have ST8 := Lib.hid (hTd.out.setO hrt hlt gb a1 k1 c1 a2 k2 c2)
                  have hr9 : Hid (FfX φ5 (Raw3.v ⟨gb, a1, k1, c1, a2, k2, c2⟩) (trmX l mq c k) K3 K3) := Lib.hid (by rw [hbx.out]; exact (hb.out.le HB.out.k3 HB.out.k3).mono (HLP.out.trans HL5.out))
                  have hW9 := Lib.hid (hWn.out φ5 (Lib.hid φ5.le_refl) _ hr9)
                  go_wp2
                  go_roundw
                  case rel => exact ⟨k + 1, φ5, _, by omega, by go_num, HL5, Lib.hid (by rw [List.length_set]; exact hrt.out), ST8, hW9⟩
                  case measure => (simp [intOf] <;> omega)
              · obtain rfl : k = n := by omega
                go_wp2
                go_end0
                exact ⟨φ'', rt, rfl, Lib.hid (HLP.out.trans hle.out), hrt, hT, hW⟩
end Go.Proofs.YtdlnhmcgnpjooaaGreatDoor

namespace Go.Proofs.YtdlnhmcgnpjooaaGreatDoor
open Go.RowKit
set_option linter.unusedVariables false
set_option linter.unusedSimpArgs false
/-- What Trim hands back. -/
def TrPost (R : List Rti × Int × Int) (φ : Phi) (w : World) (e : Ending) (w' : World) : Prop :=
  ∃ a cap φ', e = .returned (.tuple #[.slice a R.1.length cap, .int .i64 R.2.1, .int .i64 R.2.2]) ∧ Inv w.heap.size w φ φ' w' ∧ SlV φ' a cap R.1
theorem TrPost.err {R : List Rti × Int × Int} {φ φb : Phi} {w w' : World} {f : Int} (hR : ([], 0, f) = R) (hi : Inv w.heap.size w φ φb w') : TrPost R φ w (.returned (.tuple #[.slice none 0 0, .int .i64 0, .int .i64 f])) w' := by
  subst hR
  exact ⟨none, 0, φb, rfl, hi, SlV.empty φb⟩
/-- Perhaps marks already made. -/
structure MtS (n : Nat) (w0 : World) (φ0 φ : Phi) (o : Option Nat) (W : World) : Prop where
  inv : Inv w0.heap.size w0 φ0 φ W
  o : ∀ x, o = some x → Own w0.heap.size φ W 4 (some ⟨x, 0, none⟩) n (List.replicate n false)
structure MtB (E : TypeId) (n : Nat) (w0 : World) (φ0 φ : Phi) (o : Option Nat) (g cg : Nat) (rs : List Raw3) (W : World) : Prop where
  m : MtS n w0 φ0 φ o W
  r : Own w0.heap.size φ W E (some ⟨g, 0, none⟩) cg rs
  d : ∀ x, o = some x → g ≠ x
section
variable {E : TypeId} {n : Nat} {w0 W w' : World} {φ0 φ φ' : Phi} {o : Option Nat} {g cg : Nat} {rs : List Raw3} {x : Nat}
theorem MtS.call (h : MtS n w0 φ0 φ o W) (hi : Inv W.heap.size W φ φ' w') : MtS n w0 φ0 φ' o w' := ⟨h.inv.call hi, fun x hx => (h.o x hx).call hi⟩
theorem MtS.drew (h : Hid (MtS n w0 φ0 φ o W)) : Hid (MtS n w0 φ0 φ o W.drew) := Lib.hid ⟨h.out.inv.drew, fun x hx => (h.out.o x hx).drew⟩
theorem MtS.make (hn : n ≤ 3000) (h : Hid (MtS n w0 φ0 φ none W)) : Hid (MtS n w0 φ0 φ (some W.heap.size) (W.alloc (.cells (madeCells #[.bool false] n) 4))) :=
  Lib.hid ⟨h.out.inv.alloc _, fun x hx => by cases hx; exact Own.madeB h.out.inv _ n (by unfold maxLen; omega)⟩
theorem MtB.make (hn : n ≤ 3000) (h : Hid (MtB E n w0 φ0 φ none g cg rs W)) : Hid (MtB E n w0 φ0 φ (some W.heap.size) g cg rs (W.alloc (.cells (madeCells #[.bool false] n) 4))) :=
  Lib.hid ⟨(MtS.make hn (Lib.hid h.out.m)).out, h.out.r.alloc _, fun x hx => by cases hx; have := (h.out.r.lt _ rfl).2; exact Nat.ne_of_lt this⟩
theorem MtB.tw (h : Hid (MtB E n w0 φ0 φ (some x) g cg rs W)) : TwS E w0 φ0 φ g cg rs x n (List.replicate n false) W :=
  ⟨h.out.m.inv, h.out.r, h.out.m.o x rfl, h.out.d x rfl⟩
theorem MtB.box (h : Hid (MtB E n w0 φ0 φ (some x) g cg rs W)) (cs : Array Value) (T : TypeId) : TqS T E w0 φ0 φ W.heap.size cs g cg rs x n (List.replicate n false) (W.alloc (.cells cs T)) := TqS.new (MtB.tw h) cs T
end
theorem weightsOf_A {E : TypeId} {n N : Nat} {ys : List (Fx N N)} {a : Option Addr} {cap : Nat} {w0 W : World} {φ0 φ ψ : Phi} {o : Option Nat} (hC : Hid (∀ ψ W, Fz ψ W → φ.le ψ → Calls Tryz.prog 36 #[.slice a n cap] W (fun e w' => ∃ ao co φ', e = .returned (.slice ao n co) ∧ Inv W.heap.size W ψ φ' w' ∧ Own W.heap.size φ' w' E ao co ys))) (hl : Hid (φ.le ψ)) (h : Hid (MtS n w0 φ0 ψ o W)) :
    Calls Tryz.prog 36 #[.slice a n cap] W (fun e w' => ∃ ao co φ', e = .returned (.slice ao n co) ∧ Hid (ψ.le φ') ∧ Hid (SlV φ' ao co ys) ∧ Hid (MtS n w0 φ0 φ' o w')) := by
  refine (hC.out ψ W h.out.inv.fz hl.out).mono ?_
  rintro e w' ⟨ao, co, φ1, rfl, hi, ho⟩
  have h1 := h.out.call hi
  have ho' := ho.base h.out.inv.size
  obtain ⟨φ2, l2, i2, s2, f2⟩ := ho'.release h1.inv
  refine ⟨ao, co, φ2, rfl, Lib.hid (hi.le.trans l2), Lib.hid s2, Lib.hid ⟨i2, fun x hx => ?_⟩⟩
  refine (h1.o x hx).frz l2 (fun y hy => ?_)
  cases hy
  refine f2 x (fun e => ?_)
  have hlt := ((h.out.o x hx).lt _ rfl).2
  cases ao with
  | none => exact absurd e (by simp)
  | some z =>
    have h3 := (ho.lt z rfl).1
    have h4 : x = z.block := by simpa using e
    have h5 : x < W.heap.size := hlt
    omega
theorem weightsOf_B {E : TypeId} {n N : Nat} {ys : List (Fx N N)} {a : Option Addr} {cap : Nat} {w0 W : World} {φ0 φ ψ : Phi} {o : Option Nat} (hC : Hid (∀ ψ W, Fz ψ W → φ.le ψ → Calls Tryz.prog 36 #[.slice a n cap] W (fun e w' => ∃ ao co φ', e = .returned (.slice ao n co) ∧ Inv W.heap.size W ψ φ' w' ∧ Own W.heap.size φ' w' E ao co ys))) (hy : Hid (ys.length = n ∧ 0 < n)) (hl : Hid (φ.le ψ)) (h : Hid (MtS n w0 φ0 ψ o W)) :
    Calls Tryz.prog 36 #[.slice a n cap] W (fun e w' => ∃ (g cg : Nat) (rs : List Raw3) (φ' : Phi), e = .returned (.slice (some ⟨g, 0, none⟩) n cg) ∧ Hid (ψ.le φ') ∧ Hid (rs.length = n) ∧ Hid (RawX φ' N N rs (ys.map Fx.x)) ∧ Hid (MtB E n w0 φ0 φ' o g cg rs w')) := by
  refine (hC.out ψ W h.out.inv.fz hl.out).mono ?_
  rintro e w' ⟨ao, co, φ1, rfl, hi, ho⟩
  have h1 := h.out.call hi
  obtain ⟨rs, hrl, hor, hrx⟩ := ho.raw
  have hrn : Hid (rs.length = n) := Lib.hid (by rw [hrl]; exact hy.out.1)
  obtain ⟨g, rfl, hg, _⟩ := hor.rawD hrn hy.out.2
  refine ⟨g, co, rs, φ1, rfl, Lib.hid hi.le, hrn, Lib.hid hrx, Lib.hid ⟨h1, hor.base h.out.inv.size, fun x hx e => ?_⟩⟩
  subst e
  have : g < W.heap.size := ((h.out.o g hx).lt _ rfl).2
  omega
theorem keepF {w : World} {b i j q k : Nat} {v u0 u1 u2 : Value} (h : w.cell? ⟨b, k, none⟩ = some v) (h1 : i ≠ k) (h2 : j ≠ k) (h3 : q ≠ k) : (((w.setCell ⟨b, i, none⟩ u0).setCell ⟨b, j, none⟩ u1).setCell ⟨b, q, none⟩ u2).cell? ⟨b, k, none⟩ = some v := by
  rw [World.cell?_setCell_other _ _ _ _ (by intro e; injection e with _ e2; exact h3 e2), World.cell?_setCell_other _ _ _ _ (by intro e; injection e with _ e2; exact h2 e2), World.cell?_setCell_other _ _ _ _ (by intro e; injection e with _ e2; exact h1 e2)]
  exact h
theorem fxw_range {l : List Psn} {n : Nat} (hn : l.length = n) : l.map fxW = ((List.range n).map (wgtQ l)).map (Fx.mk (N := 1000000000000) (D := 1000000000000)) := by
  subst hn
  apply List.ext_getElem
  · simp
  · intro i h1 h2
    simp at h1
    simp [wgtQ, h1]
set_option maxRecDepth 100000 in
set_option maxHeartbeats 8000000 in
theorem Trim_any {M K1 K2 KL K3 : Nat} (hD : Hid (DivOk M)) (hM : LenB M) (hM2 : p10 2000 ≤ M) {n : Nat} (hB : Hid (n ≤ 3000 → TrB M 1000000000000 K1 K2 KL K3 n)) {a : Option Addr} {cap : Nat} {l : List Psn} {w : World} {φ : Phi} (hφ : Fz φ w) (hp : PowP φ) (sl : SlV φ a cap l) (hn : Hid (l.length = n)) (hsz : Hid (∀ p ∈ l, PsnG p)) {s t : ByteArray} (hs : s.size ≤ 9223372036854775807) (ht : t.size ≤ 9223372036854775807) {R : List Rti × Int × Int} (hR : Hid (trmR l s t = R)) :
    Calls Tryz.prog 22 #[.slice a n cap, .agg #[.string s, .string t]] w (TrPost R φ w) := by
  have HM2 := Lib.hid hM2
  have hnl : n ≤ 9223372036854775807 := by have := sl.capn; have := sl.capm; rw [hn.out] at *; unfold maxLen at *; omega
  obtain ⟨φb, lb, ib, eb⟩ := (Inv.start hφ).frz (.cells #[.string s, .string t] 29)
  have HI := Lib.hid ib
  have EB := Lib.hid eb
  have HSL := Lib.hid (sl.mono lb)
  have HP := Lib.hid (hp.mono lb)
  obtain ⟨f, hf⟩ : ∃ f, Hid (pplF l = f) := ⟨_, Lib.hid rfl⟩
  clear lb ib eb hφ hM2 sl hp
  by_cases hf0 : f = 0
  case neg =>
    have hE : Hid (([], 0, f) = R) := Lib.hid (by rw [← hR.out]; unfold trmR; rw [if_pos (by rw [hf.out]; exact hf0), hf.out])
    have h0i : (f == 0) = false := by simp [hf0]
    have h0j : (f != 0) = true := by simp [hf0]
    clear hf0 hR
    go_enter Tryz.func22, Tryz.ntmps22
    go_upto_region 1 with fail
    generalize w.alloc (.cells #[.string s, .string t] 29) = wx at *
    obtain ⟨b3, hb3⟩ : ∃ b, w.heap.size = b := ⟨_, rfl⟩
    rw [hb3] at EB
    rw [hb3]
    clear hb3
    go_upto_region 3 with (first
      | (go_at_call 26; (with_reducible refine (Short_any hD HM2.out hs ht hsf I1.out.fz).mono ?_); rintro en w2 ⟨rfl, hb2⟩; have I2 := Lib.hid (I1.out.callB hb2); have u0 : w2.cell? ⟨b3, 0, none⟩ = some (.string s) := box_cell EB.out φb.le_refl I2.out.fz 0; have u1 : w2.cell? ⟨b3, 1, none⟩ = some (.string t) := box_cell EB.out φb.le_refl I2.out.fz 1; clear hb2)
      | (go_at_call 35; (with_reducible refine (peopleFault_any hD HM2.out HI.out.fz HSL.out hn hsz hf).mono ?_); rintro en w1 ⟨rfl, hb1⟩; have I1 := Lib.hid (HI.out.callB hb1); have t0 : w1.cell? ⟨b3, 0, none⟩ = some (.string s) := box_cell EB.out φb.le_refl I1.out.fz 0; have t1 : w1.cell? ⟨b3, 1, none⟩ = some (.string t) := box_cell EB.out φb.le_refl I1.out.fz 1; clear hb1))
    go_wp2
    go_ret3
    exact TrPost.err hE.out I1.out
  case pos =>
    subst hf0
    obtain ⟨fs, hsf⟩ : ∃ f, Hid (shoF s t = f) := ⟨_, Lib.hid rfl⟩
    by_cases hs0 : fs = 0
    case neg =>
      have hE : Hid (([], 0, fs) = R) := Lib.hid (by rw [← hR.out]; unfold trmR; rw [if_neg (by rw [hf.out]; decide), if_pos (by rw [hsf.out]; exact hs0), hsf.out])
      have h0i : (fs == 0) = false := by simp [hs0]
      have h0j : (fs != 0) = true := by simp [hs0]
      clear hs0 hR
      go_enter Tryz.func22, Tryz.ntmps22
      go_upto_region 1 with fail
      generalize w.alloc (.cells #[.string s, .string t] 29) = wx at *
      obtain ⟨b3, hb3⟩ : ∃ b, w.heap.size = b := ⟨_, rfl⟩
      rw [hb3] at EB
      rw [hb3]
      clear hb3
      go_upto_region 6 with (first
        | (go_at_call 26; (with_reducible refine (Short_any hD HM2.out hs ht hsf I1.out.fz).mono ?_); rintro en w2 ⟨rfl, hb2⟩; have I2 := Lib.hid (I1.out.callB hb2); have u0 : w2.cell? ⟨b3, 0, none⟩ = some (.string s) := box_cell EB.out φb.le_refl I2.out.fz 0; have u1 : w2.cell? ⟨b3, 1, none⟩ = some (.string t) := box_cell EB.out φb.le_refl I2.out.fz 1; clear hb2)
        | (go_at_call 35; (with_reducible refine (peopleFault_any hD HM2.out HI.out.fz HSL.out hn hsz hf).mono ?_); rintro en w1 ⟨rfl, hb1⟩; have I1 := Lib.hid (HI.out.callB hb1); have t0 : w1.cell? ⟨b3, 0, none⟩ = some (.string s) := box_cell EB.out φb.le_refl I1.out.fz 0; have t1 : w1.cell? ⟨b3, 1, none⟩ = some (.string t) := box_cell EB.out φb.le_refl I1.out.fz 1; clear hb1))
      go_wp2
      go_ret3
      exact TrPost.err hE.out I2.out
    case pos =>
      subst hs0
      have hrf := Lib.hid (shoF_ok hsf.out).1
      have HSH := Lib.hid (sho_lt hsf.out)
      obtain ⟨mq, hmq⟩ : ∃ q, Hid (ratX s t = q) := ⟨_, Lib.hid rfl⟩
      obtain ⟨q, hq⟩ : ∃ q, Hid (cmpQ mq 1 = q) := ⟨_, Lib.hid rfl⟩
      have HM4 : Hid (1000000000000 * 1 + 1 * 1000000000000 ≤ M ∧ 1000000000000 * 1 ≤ M) := Lib.hid (by
        have h1 : p10 13 ≤ M := Nat.le_trans (p10_mono (by decide)) HM2.out
        have h2 : p10 13 = 10000000000000 := by decide
        omega)
      by_cases hlt1 : mq < 1
      case pos =>
        have hE : Hid (([], 0, 1) = R) := Lib.hid (by rw [← hR.out]; unfold trmR; rw [if_neg (by rw [hf.out]; decide), if_neg (by rw [hsf.out]; decide), hmq.out, if_pos hlt1])
        have hq0 : q < 0 := by rw [← hq.out]; exact cmpQ_neg.2 hlt1
        clear hlt1 hR
        go_enter Tryz.func22, Tryz.ntmps22
        go_upto_region 1 with fail
        generalize w.alloc (.cells #[.string s, .string t] 29) = wx at *
        obtain ⟨b3, hb3⟩ : ∃ b, w.heap.size = b := ⟨_, rfl⟩
        rw [hb3] at EB
        rw [hb3]
        clear hb3
        go_upto_region 7 with (first
          | (go_at_call 26; (with_reducible refine (Short_any hD HM2.out hs ht hsf I1.out.fz).mono ?_); rintro en w2 ⟨rfl, hb2⟩; have I2 := Lib.hid (I1.out.callB hb2); have u0 : w2.cell? ⟨b3, 0, none⟩ = some (.string s) := box_cell EB.out φb.le_refl I2.out.fz 0; have u1 : w2.cell? ⟨b3, 1, none⟩ = some (.string t) := box_cell EB.out φb.le_refl I2.out.fz 1; clear hb2)
          | (go_at_call 35; (with_reducible refine (peopleFault_any hD HM2.out HI.out.fz HSL.out hn hsz hf).mono ?_); rintro en w1 ⟨rfl, hb1⟩; have I1 := Lib.hid (HI.out.callB hb1); have t0 : w1.cell? ⟨b3, 0, none⟩ = some (.string s) := box_cell EB.out φb.le_refl I1.out.fz 0; have t1 : w1.cell? ⟨b3, 1, none⟩ = some (.string t) := box_cell EB.out φb.le_refl I1.out.fz 1; clear hb1))
        go_upto_region 8 with (first
          | (go_at_call 29; (with_reducible refine (Compare_any hM I4.out.fz V34.out V4.out HM4.out.1 HM4.out.2 hq).mono ?_); rintro en w5 ⟨rfl, hb5⟩; have I5 := Lib.hid (I4.out.callB hb5); clear hb5)
          | (go_at_call 30; (with_reducible refine (FracInt_any (n := 1) (by decide) (by decide) I3.out.fz).mono ?_); rintro en w4 ⟨v4, φ4, rfl, hi4, hv4⟩; have hv4 := hv4.le (Nat.le_refl 1) (Nat.le_refl 1); have I4 := Lib.hid (I3.out.call hi4); have L4 := Lib.hid (L3.out.trans hi4.le); have V34 := Lib.hid (V3.out.mono hi4.le); have V4 := Lib.hid hv4; clear hi4 hv4)
          | (go_at_call 27; (with_reducible refine (FracOf_any hD HM2.out hs ht hrf I2.out.fz).mono ?_); rintro en w3 ⟨v3, φ3, rfl, hi3, hv3⟩; rw [hmq.out] at hv3; have hv3 := hv3.le HSH.out.1 HSH.out.2; have I3 := Lib.hid (I2.out.call hi3); have L3 := Lib.hid hi3.le; have V3 := Lib.hid hv3; clear hi3 hv3))
        go_wp2
        go_ret3
        exact TrPost.err hE.out I5.out
      case neg =>
        have hq0 : ¬ q < 0 := by rw [← hq.out]; exact fun h => hlt1 (cmpQ_neg.1 h)
        by_cases hn0 : n = 0
        case pos =>
          subst hn0
          have hE : Hid (([], 0, 0) = R) := Lib.hid (by rw [← hR.out]; unfold trmR; rw [if_neg (by rw [hf.out]; decide), if_neg (by rw [hsf.out]; decide), hmq.out, if_neg hlt1, if_pos hn.out])
          clear hlt1 hR
          go_enter Tryz.func22, Tryz.ntmps22
          go_upto_region 1 with fail
          generalize w.alloc (.cells #[.string s, .string t] 29) = wx at *
          obtain ⟨b3, hb3⟩ : ∃ b, w.heap.size = b := ⟨_, rfl⟩
          rw [hb3] at EB
          rw [hb3]
          clear hb3
          go_upto_region 7 with (first
            | (go_at_call 26; (with_reducible refine (Short_any hD HM2.out hs ht hsf I1.out.fz).mono ?_); rintro en w2 ⟨rfl, hb2⟩; have I2 := Lib.hid (I1.out.callB hb2); have u0 : w2.cell? ⟨b3, 0, none⟩ = some (.string s) := box_cell EB.out φb.le_refl I2.out.fz 0; have u1 : w2.cell? ⟨b3, 1, none⟩ = some (.string t) := box_cell EB.out φb.le_refl I2.out.fz 1; clear hb2)
            | (go_at_call 35; (with_reducible refine (peopleFault_any hD HM2.out HI.out.fz HSL.out hn hsz hf).mono ?_); rintro en w1 ⟨rfl, hb1⟩; have I1 := Lib.hid (HI.out.callB hb1); have t0 : w1.cell? ⟨b3, 0, none⟩ = some (.string s) := box_cell EB.out φb.le_refl I1.out.fz 0; have t1 : w1.cell? ⟨b3, 1, none⟩ = some (.string t) := box_cell EB.out φb.le_refl I1.out.fz 1; clear hb1))
          go_upto_region 10 with (first
            | (go_at_call 29; (with_reducible refine (Compare_any hM I4.out.fz V34.out V4.out HM4.out.1 HM4.out.2 hq).mono ?_); rintro en w5 ⟨rfl, hb5⟩; have I5 := Lib.hid (I4.out.callB hb5); clear hb5)
            | (go_at_call 30; (with_reducible refine (FracInt_any (n := 1) (by decide) (by decide) I3.out.fz).mono ?_); rintro en w4 ⟨v4, φ4, rfl, hi4, hv4⟩; have hv4 := hv4.le (Nat.le_refl 1) (Nat.le_refl 1); have I4 := Lib.hid (I3.out.call hi4); have L4 := Lib.hid (L3.out.trans hi4.le); have V34 := Lib.hid (V3.out.mono hi4.le); have V4 := Lib.hid hv4; clear hi4 hv4)
            | (go_at_call 27; (with_reducible refine (FracOf_any hD HM2.out hs ht hrf I2.out.fz).mono ?_); rintro en w3 ⟨v3, φ3, rfl, hi3, hv3⟩; rw [hmq.out] at hv3; have hv3 := hv3.le HSH.out.1 HSH.out.2; have I3 := Lib.hid (I2.out.call hi3); have L3 := Lib.hid hi3.le; have V3 := Lib.hid hv3; clear hi3 hv3))
          go_wp2
          go_ret3
          exact TrPost.err hE.out I5.out
        case neg =>
          have hpos : Hid (0 < n) := Lib.hid (by omega)
          have h0i : ((n : Int) == 0) = false := by simp [hn0]
          have hm1 : Hid (1 ≤ mq) := Lib.hid (Rat.not_lt.1 hlt1)
          obtain ⟨hn3', hall⟩ := pplF_ok hf.out
          rw [hn.out] at hn3' hall
          have hn3 := hn3'
          clear hn3'
          have hok : Hid (∀ p ∈ l, shoF p.1.1 p.1.2 = 0) := Lib.hid (fun p hpm => by
            obtain ⟨i, hi, e⟩ := List.getElem_of_mem hpm
            have := hall i (by rw [← hn.out]; exact hi)
            rw [getD_elem0 _ _ _ hi, e] at this
            exact (psnF_ok this).1)
          have hwp : Hid (∀ j, j < n → 0 < wgtQ l j) := Lib.hid (fun j hj => (psnF_ok (hall j hj)).2)
          obtain ⟨xs, hxs⟩ : ∃ xs, Hid (xs = (List.range n).map (wgtQ l)) := ⟨_, Lib.hid rfl⟩
          have hxn : Hid (xs.length = n) := Lib.hid (by rw [hxs.out]; simp)
          have hW := fxw_range hn.out
          rw [← hxs.out] at hW
          have HCo := Lib.hid (fun (ψ : Phi) W (hf9 : Fz ψ W) (hl : φb.le ψ) => weightsOf_own hD HM2.out hf9 (HSL.out.mono hl) hn hn3 hsz hok)
          rw [hW] at HCo
          have HB := Lib.hid (hB.out hn3)
          have hRR : Hid ((if (shtR ((List.range n).map (trmX l mq (trC l mq)))).2 ≠ 0 then ([], 0, (shtR ((List.range n).map (trmX l mq (trC l mq)))).2) else ((shtR ((List.range n).map (trmX l mq (trC l mq)))).1, (cntN (trC l mq) n : Int), 0)) = R) := Lib.hid (by
            have e : trmR l s t = (if (shtR ((List.range n).map (trmX l mq (trC l mq)))).2 ≠ 0 then ([], 0, (shtR ((List.range n).map (trmX l mq (trC l mq)))).2) else ((shtR ((List.range n).map (trmX l mq (trC l mq)))).1, (cntN (trC l mq) n : Int), 0)) := by
              unfold trmR
              rw [hf.out, hsf.out, hmq.out, hn.out, if_neg (show ¬ ((0 : Int) ≠ 0) by decide), if_neg (show ¬ ((0 : Int) ≠ 0) by decide), if_neg hlt1, if_neg hn0]
            rw [← hR.out, e])
          clear hW hok hB hall hlt1 hn0 hR
          obtain ⟨N, hN⟩ : ∃ N, N = 1000000000000 := ⟨_, rfl⟩
          rw [← hN] at HCo HB HSH HM4
          clear hN
          have hyl : Hid ((xs.map (Fx.mk (N := N) (D := N))).length = n ∧ 0 < n) := Lib.hid ⟨by rw [List.length_map, hxn.out], hpos.out⟩
          have em := makeB_eq n (by omega)
          go_enter Tryz.func22, Tryz.ntmps22
          go_upto_region 1 with fail
          generalize w.alloc (.cells #[.string s, .string t] 29) = wx at *
          obtain ⟨b3, hb3⟩ : ∃ b, w.heap.size = b := ⟨_, rfl⟩
          rw [hb3] at EB
          rw [hb3]
          clear hb3
          go_upto_region 7 with (first
            | (go_at_call 26; (with_reducible refine (Short_any hD HM2.out hs ht hsf I1.out.fz).mono ?_); rintro en w2 ⟨rfl, hb2⟩; have I2 := Lib.hid (I1.out.callB hb2); have u0 : w2.cell? ⟨b3, 0, none⟩ = some (.string s) := box_cell EB.out φb.le_refl I2.out.fz 0; have u1 : w2.cell? ⟨b3, 1, none⟩ = some (.string t) := box_cell EB.out φb.le_refl I2.out.fz 1; clear hb2)
            | (go_at_call 35; (with_reducible refine (peopleFault_any hD HM2.out HI.out.fz HSL.out hn hsz hf).mono ?_); rintro en w1 ⟨rfl, hb1⟩; have I1 := Lib.hid (HI.out.callB hb1); have t0 : w1.cell? ⟨b3, 0, none⟩ = some (.string s) := box_cell EB.out φb.le_refl I1.out.fz 0; have t1 : w1.cell? ⟨b3, 1, none⟩ = some (.string t) := box_cell EB.out φb.le_refl I1.out.fz 1; clear hb1))
          go_upto_region 11 with (first
            | (go_at_call 29; (with_reducible refine (Compare_any hM I4.out.fz V34.out V4.out HM4.out.1 HM4.out.2 hq).mono ?_); rintro en w5 ⟨rfl, hb5⟩; have I5 := Lib.hid (I4.out.callB hb5); clear hb5)
            | (go_at_call 30; (with_reducible refine (FracInt_any (n := 1) (by decide) (by decide) I3.out.fz).mono ?_); rintro en w4 ⟨v4, φ4, rfl, hi4, hv4⟩; have hv4 := hv4.le (Nat.le_refl 1) (Nat.le_refl 1); have I4 := Lib.hid (I3.out.call hi4); have L4 := Lib.hid (L3.out.trans hi4.le); have V34 := Lib.hid (V3.out.mono hi4.le); have V4 := Lib.hid hv4; clear hi4 hv4)
            | (go_at_call 27; (with_reducible refine (FracOf_any hD HM2.out hs ht hrf I2.out.fz).mono ?_); rintro en w3 ⟨v3, φ3, rfl, hi3, hv3⟩; rw [hmq.out] at hv3; have hv3 := hv3.le HSH.out.1 HSH.out.2; have I3 := Lib.hid (I2.out.call hi3); have L3 := Lib.hid hi3.le; have V3 := Lib.hid hv3; clear hi3 hv3))
          clear V34 V4 V3 HM4 hq hq0 h0i HI
          have EB4 := Lib.hid (L4.out _ _ EB.out)
          have HP4 := Lib.hid (HP.out.mono L4.out)
          have S0 : Hid (MtS n w φ φ4 none w5) := Lib.hid ⟨I5.out, fun x hx => by cases hx⟩
          have S0d := MtS.drew S0
          have S0a := MtS.drew (MtS.make hn3 S0)
          have hfx : (xs.map (Fx.mk (N := N) (D := N))).map Fx.x = xs := by rw [List.map_map]; exact List.map_id _
          have HFX := Lib.hid hfx
          clear I1 I2 I3 I4 I5 EB HP hfx L3 t0 t1 u0 u1
          apply wp_region_cutV (fun (i : Option Addr × Nat × Nat × Nat × Nat × Nat) => [(30, .slice a n cap), (31, .slice i.1 n i.2.1), (32, .slice a n cap), (33, .slice (some ⟨i.2.2.1, 0, none⟩) n i.2.2.2.1), (34, .slice a n cap), (35, .int .i64 (n : Int)), (36, .slice (some ⟨i.2.2.2.2.1, 0, none⟩) n n), (37, .agg #[.slice i.1 n i.2.1, .slice (some ⟨i.2.2.1, 0, none⟩) n i.2.2.2.1, .bool false, .slice none 0 0, .slice none 0 0, .slice (some ⟨i.2.2.2.2.1, 0, none⟩) n n, .int .i64 0]), (38, .pointer (some ⟨i.2.2.2.2.2, 0, none⟩)), (9, .pointer (some ⟨i.2.2.2.2.2, 0, none⟩))])
            (fun i W => Hid (∃ φ5 rs, φ4.le φ5 ∧ rs.length = n ∧ SlV φ5 i.1 i.2.1 (xs.map (Fx.mk (N := N) (D := N))) ∧ RawX φ5 N N rs xs ∧ TqS 93 63 w φ φ5 i.2.2.2.2.2 #[.slice i.1 n i.2.1, .slice (some ⟨i.2.2.1, 0, none⟩) n i.2.2.2.1, .bool false, .slice none 0 0, .slice none 0 0, .slice (some ⟨i.2.2.2.2.1, 0, none⟩) n n, .int .i64 0] i.2.2.1 i.2.2.2.1 rs i.2.2.2.2.1 n (List.replicate n false) W))
          case h1 =>
            intro KK hKK
            go_region_held3 (fun _ => True) (first | done | trivial) (first
              | ((first | (with_reducible refine (weightsOf_B HCo hyl (Lib.hid (L4.out.trans LA.out)) SA).mono ?_) | (with_reducible refine (weightsOf_B HCo hyl (Lib.hid (L4.out.trans LA.out)) (MtS.make hn3 SA)).mono ?_)); rintro en wB ⟨g, cg, rs, φB, rfl, LB, hrB, HXB, SB⟩)
              | ((first | (with_reducible refine (weightsOf_A HCo L4 S0d).mono ?_) | (with_reducible refine (weightsOf_A HCo L4 S0a).mono ?_)); rintro en wA ⟨ao, co, φA, rfl, LA, HSO, SA⟩)
              | fail)
            all_goals
              refine onlyN_mk ?_
              have hk9 := fun e b W s => hKK.out (ao, co, g, cg, e, b) W s
              simp only [updA, List.foldl_cons, List.foldl_nil, List.setIfInBounds_toArray, List.set_cons_succ, List.set_cons_zero] at hk9
              refine hk9 _ _ _ (Lib.hid ⟨φB, rs, LA.out.trans LB.out, hrB.out, HSO.out.mono LB.out, by have h := HXB.out; rw [HFX.out] at h; exact h, ?_⟩)
              first
                | with_reducible exact MtB.box SB _ _
                | (have h := MtB.box (MtB.make hn3 SB) #[.slice ao n co, .slice (some ⟨g, 0, none⟩) n cg, .bool false, .slice none 0 0, .slice none 0 0, .slice (some ⟨wB.heap.size, 0, none⟩) n n, .int .i64 0] 93; rw [alloc_sz] at h; exact h)
          case h2 =>
            rintro ⟨ao, co, g, cg, e, b⟩ W6 hF6
            simp only [updA, List.foldl_cons, List.foldl_nil, List.setIfInBounds_toArray, List.set_cons_succ, List.set_cons_zero]
            obtain ⟨φ5, rs, l5, hrn', hso, hrx, hT5'⟩ := hF6.out
            have hrn := Lib.hid hrn'
            have HSO := Lib.hid hso
            have HRX := Lib.hid hrx
            have HT5 := Lib.hid hT5'
            have EB5 := Lib.hid (l5 _ _ EB4.out)
            have HP5 := Lib.hid (HP4.out.mono l5)
            clear hF6 l5 hrn' hso hrx hT5' S0 S0d S0a EB4 HP4 L4 HCo em hyl
            have hbb : Hid (b ≠ b3) := Lib.hid (fun h => by have h1 := HT5.out.r.f; rw [h, EB5.out] at h1; exact absurd h1 (by simp))
            have hcf := Lib.hid (fun (ψ : Phi) (W : World) (hl : Hid (φ5.le ψ)) (h : Hid (TqS 93 63 w φ ψ b #[.slice ao n co, .slice (some ⟨g, 0, none⟩) n cg, .bool false, .slice none 0 0, .slice none 0 0, .slice (some ⟨e, 0, none⟩) n n, .int .i64 0] g cg rs e n (List.replicate n false) W)) => (⟨box_cell EB5.out hl.out h.out.r.inv.fz 0, box_cell EB5.out hl.out h.out.r.inv.fz 1, h.out.r.k.cell 0⟩ : W.cell? ⟨b3, 0, none⟩ = some (.string s) ∧ W.cell? ⟨b3, 1, none⟩ = some (.string t) ∧ W.cell? ⟨b, 0, none⟩ = some (.slice ao n co)))
            have LR := Lib.hid φ5.le_refl
            have HTd : Hid (TqS 93 63 w φ φ5 b #[.slice ao n co, .slice (some ⟨g, 0, none⟩) n cg, .bool false, .slice none 0 0, .slice none 0 0, .slice (some ⟨e, 0, none⟩) n n, .int .i64 0] g cg rs e n (List.replicate n false) W6.drew) := Lib.hid HT5.out.drew
            obtain ⟨y0, y1, y2⟩ := hcf.out φ5 W6 LR HT5
            obtain ⟨x0, x1, x2⟩ := hcf.out φ5 W6.drew LR HTd
            have hxS : Hid (sumQ xs = totQ l) := Lib.hid (by rw [hxs.out, sumQ_range]; unfold totQ; rw [hn.out])
            have hM1 : Hid (n * N * N ^ n ≤ M ∧ N ^ n ≤ M) := Lib.hid ⟨Nat.le_trans HB.out.s1 HB.out.m6, Nat.le_trans HB.out.s2 HB.out.m6⟩
            have hM3 : Hid (N ≤ M) := Lib.hid (Nat.le_trans HB.out.n3 HB.out.m3)
            have hM4 : Hid (N * K1 * 1 ≤ M ∧ N * K1 * n ≤ M ∧ 1 ≤ M) := Lib.hid ⟨Nat.le_trans HB.out.b1 (Nat.le_trans HB.out.k3 HB.out.m3), Nat.le_trans HB.out.b2 (Nat.le_trans HB.out.k3 HB.out.m3), Nat.le_trans HB.out.o1 HB.out.m6⟩
            have hnq : Hid (((n : Int) : Rat) ≠ 0) := Lib.hid (by have := hpos.out; simp; omega)
            have hbq : Hid (mq * totQ l / ((n : Int) : Rat) = bndQ l mq) := Lib.hid (by unfold bndQ; rw [hn.out])
            go_upto_region 12 with fail
            go_region_held3 (fun w' => w'.cell? ⟨b3, 0, none⟩ = some (.string s) ∧ w'.cell? ⟨b3, 1, none⟩ = some (.string t) ∧ w'.cell? ⟨b, 0, none⟩ = some (.slice ao n co)) (first | done | with_reducible exact ⟨x0, x1, x2⟩ | with_reducible exact ⟨by assumption, by assumption, by assumption⟩ | with_reducible exact ⟨keepO (by with_reducible assumption) hbb.out, keepO (by with_reducible assumption) hbb.out, keepF (by with_reducible assumption) (by decide) (by decide) (by decide)⟩ | fail) (first
              | ((with_reducible refine (Over_any hD hM SD.out.r.inv.fz (VC.out.mono LD.out) VD.out hnq.out hM4.out.1 hM4.out.2.1 hM4.out.2.2).mono ?_); rintro en wE ⟨vE, φE, rfl, hiE, hvE⟩; rw [hbq.out] at hvE; have hvE := hvE.le HB.out.b1 HB.out.b2; obtain ⟨gb, nE, mE, k1, k2, a1, c1, a2, c2, rfl, _⟩ := hvE.open; have SE := Lib.hid (SD.out.call hiE); have LE := Lib.hid (LAD.out.trans hiE.le); have VE := Lib.hid hvE; obtain ⟨s0, s1, s2⟩ := hcf.out φE wE LE SE; have r2 : wE.cell? ⟨b, 2, none⟩ = some (.bool false) := SE.out.r.k.cell 2; have r3 : wE.cell? ⟨b, 3, none⟩ = some (.slice none 0 0) := SE.out.r.k.cell 3; have r4 : wE.cell? ⟨b, 4, none⟩ = some (.slice none 0 0) := SE.out.r.k.cell 4; have r5 := SE.out.r.k.frz 2; have r6 := SE.out.r.k.frz 3; have r7 := SE.out.r.k.frz 4; clear hiE hvE)
              | ((with_reducible refine (FracInt_any (n := (n : Int)) (by omega) (by omega) SC.out.r.inv.fz).mono ?_); rintro en wD ⟨vD, φD, rfl, hiD, hvD⟩; have hvD := hvD.le (show (n : Int).natAbs ≤ n by omega) (Nat.le_refl 1); have SD := Lib.hid (SC.out.call hiD); have LD := Lib.hid hiD.le; have LAD := Lib.hid (LAC.out.trans hiD.le); have VD := Lib.hid hvD; obtain ⟨q0, q1, q2⟩ := hcf.out φD wD LAD SD; clear hiD hvD)
              | ((with_reducible refine (Times_any hD hM SB.out.r.inv.fz (VA.out.mono LB.out) VB.out HB.out.m10 HB.out.m10 hM3.out HB.out.m6).mono ?_); rintro en wC ⟨vC, φC, rfl, hiC, hvC⟩; have SC := Lib.hid (SB.out.call hiC); have LAC := Lib.hid (LAB.out.trans hiC.le); have VC := Lib.hid hvC; obtain ⟨p0, p1, p2⟩ := hcf.out φC wC LAC SC; clear hiC hvC)
              | ((with_reducible refine (SumOf_any hD hM HB.out.n1 hM1.out.1 hM1.out.2 SA.out.r.inv.fz (HSO.out.mono LA.out) hxn hxS).mono ?_); rintro en wB ⟨vB, φB, rfl, hiB, hvB⟩; have hvB := hvB.le HB.out.s1 HB.out.s2; have SB := Lib.hid (SA.out.call hiB); have LB := Lib.hid hiB.le; have LAB := Lib.hid (LA.out.trans hiB.le); have VB := Lib.hid hvB; obtain ⟨o0, o1, o2⟩ := hcf.out φB wB LAB SB; clear hiB hvB)
              | ((with_reducible refine (FracOf_any hD HM2.out hs ht hrf HTd.out.r.inv.fz).mono ?_); rintro en wA ⟨vA, φA, rfl, hiA, hvA⟩; rw [hmq.out] at hvA; have hvA := hvA.le HSH.out.1 HSH.out.2; have SA := Lib.hid (HTd.out.call hiA); have LA := Lib.hid hiA.le; have VA := Lib.hid hvA; obtain ⟨n0, n1, n2⟩ := hcf.out φA wA LA SA; clear hiA hvA)
              | fail)
            all_goals
              clear x0 x1 x2 y0 y1 y2 n0 n1 n2 o0 o1 o2 p0 p1 p2 q0 q1 q2 s0 s1 s2 r2 r3 r4 r5 r6 r7 hcf HTd HT5 SA SB SC SD VA VB VC VD
              have TS0 : Hid (TqS 93 63 w φ φE b #[.slice ao n co, .slice (some ⟨g, 0, none⟩) n cg, .bool gb, .slice a1 k1 c1, .slice a2 k2 c2, .slice (some ⟨e, 0, none⟩) n n, .int .i64 0] g cg rs e n (List.replicate n false) (((wE.setCell ⟨b, 2, none⟩ (.bool gb)).setCell ⟨b, 3, none⟩ (.slice a1 k1 c1)).setCell ⟨b, 4, none⟩ (.slice a2 k2 c2))) := Lib.hid (((SE.out.setB 2 _).setB 3 _).setB 4 _)
              clear SE
              generalize ((wE.setCell ⟨b, 2, none⟩ (.bool gb)).setCell ⟨b, 3, none⟩ (.slice a1 k1 c1)).setCell ⟨b, 4, none⟩ (.slice a2 k2 c2) = wf at *
              have HSOE := Lib.hid (HSO.out.mono LE.out)
              have hrep : List.replicate n false = trS l mq 0 := by rw [← hn.out]; rfl
              have hc0 : (0 : Int) = ((cntN (trS l mq 0) n : Nat) : Int) := by rw [← hrep, cntN_zero]; rfl
              have ht0 : totQ l ≠ 0 := fun e0 => by
                have := tot_pos (l := l) (fun j hj => hwp.out j (by rw [← hn.out]; exact hj)) (by rw [hn.out]; exact hpos.out)
                rw [e0] at this
                exact absurd this (by decide)
              have TS1 : Hid (TqS 93 63 w φ φE b #[.slice ao n co, .slice (some ⟨g, 0, none⟩) n cg, .bool gb, .slice a1 k1 c1, .slice a2 k2 c2, .slice (some ⟨e, 0, none⟩) n n, .int .i64 ((cntN (trS l mq 0) n : Nat) : Int)] g cg rs e n (trS l mq 0) wf) := Lib.hid (by rw [← hc0, ← hrep]; exact TS0.out)
              have HV0 : Hid (∀ m, m < n → FfX φE (rs.getD m raw0).v (trmX l mq (trS l mq 0) m) K3 K3) := Lib.hid (fun m hm => by
                have h1 := HRX.out.get m (by rw [hrn.out]; exact hm)
                rw [show xs.getD m 0 = trmX l mq (trS l mq 0) m by
                  rw [hxs.out, range_getD _ hm]
                  exact (trm_zero ht0 m).symm] at h1
                exact (h1.le HB.out.n3 HB.out.n3).mono LE.out)
              have HPE := Lib.hid (HP5.out.mono LE.out)
              have hBc : Hid (K3 * K2 + K2 * K3 ≤ M ∧ K3 * K2 ≤ M) := Lib.hid ⟨HB.out.m1, HB.out.m2⟩
              clear hrep hc0 ht0 TS0 HRX HSO HP5 EB5 LE hM1 hM3 hM4 hbq hrf hmq hnq hxS
              go_wp2
              go_loopw [] (fun wr => ∃ (r : Nat) (φ' : Phi) (rt : List Raw3), r ≤ cntN (trS l mq r) n ∧ Hid (φE.le φ') ∧ Hid (rt.length = n) ∧ Hid (TqS 93 63 w φ φ' b #[.slice ao n co, .slice (some ⟨g, 0, none⟩) n cg, .bool gb, .slice a1 k1 c1, .slice a2 k2 c2, .slice (some ⟨e, 0, none⟩) n n, .int .i64 ((cntN (trS l mq r) n : Nat) : Int)] g cg rt e n (trS l mq r) wr) ∧ Hid (∀ m, m < n → FfX φ' (rt.getD m raw0).v (trmX l mq (trS l mq r) m) K3 K3)) (fun wr => n + 1 - cntW wr e n)
              case atStart => exact ⟨0, φE, rs, Nat.zero_le _, Lib.hid φE.le_refl, hrn, TS1, HV0⟩
              case round =>
                clear TS1 HV0
                rename World => wr
                obtain ⟨r, φ', rt, hr, hle, hrt, hT, hW⟩ := hrel
                have hcl : Hid ((trS l mq r).length = n) := Lib.hid (by rw [trS_len, hn.out])
                have hcl2 : Hid ((trS l mq (r + 1)).length = n) := Lib.hid (by rw [trS_len, hn.out])
                have htl : Hid (tkL (trmX l mq (trS l mq r)) (bndQ l mq) (trS l mq r) n = trS l mq (r + 1)) := Lib.hid (by rw [← hn.out]; rfl)
                have HVB := Lib.hid (VE.out.mono hle.out)
                have HSK := Lib.hid (HSOE.out.mono hle.out)
                have hcw := hT.out.t.cnt hcl
                obtain ⟨bb, hbb⟩ : ∃ x, Hid (tkA (trmX l mq (trS l mq r)) (bndQ l mq) (trS l mq r) n = x) := ⟨_, Lib.hid rfl⟩
                cases bb
                · have hno := Lib.hid ((tkA_no hbb.out).1)
                  go_upto_region 15 with (go_at_call 57; (with_reducible refine (take_any hM hBc hn3 hW HVB hrt hcl hT).mono ?_); rintro en w7 ⟨rfl, ST7⟩; rw [hbb.out]; rw [hno.out] at ST7)
                  have hC : Hid (trC l mq = trS l mq r) := Lib.hid (trC_fix (by rw [hn.out]; have := cntN_le (trS l mq r) n; omega) (by rw [hn.out]; exact hbb.out))
                  rw [hC.out] at hRR
                  obtain ⟨zs, hzs⟩ : ∃ zs, (List.range n).map (trmX l mq (trS l mq r)) = zs := ⟨_, rfl⟩
                  have hzn : Hid (zs.length = n) := Lib.hid (by rw [← hzs]; simp)
                  obtain ⟨L, hL⟩ : ∃ L, (shtR zs).1 = L := ⟨_, rfl⟩
                  obtain ⟨F, hF⟩ : ∃ F, (shtR zs).2 = F := ⟨_, rfl⟩
                  have hSR : Hid (shtR zs = (L, F)) := Lib.hid (by rw [← hL, ← hF])
                  have hR2 := hRR.out
                  rw [hzs, hL, hF] at hR2
                  have HR2 := Lib.hid hR2
                  have hraw := RawX.of (rs := rt) (xs := zs) (φ := φ') (N := K3) (D := K3) (by rw [hrt.out, hzn.out]) (fun m hm => by
                    rw [hrt.out] at hm
                    rw [← hzs, range_getD _ hm]
                    exact hW.out m hm)
                  obtain ⟨φ1, l1, tw1, e1⟩ := ST7.out.frz
                  obtain ⟨φ2, l2, i2, s2, _⟩ := ((tw1.o.fx (hraw.mono l1))).release tw1.inv
                  have I2 := Lib.hid i2
                  have S2 := Lib.hid s2
                  have E2 := Lib.hid (l2 _ _ e1)
                  have HP2 := Lib.hid (HPE.out.mono (hle.out.trans (l1.trans l2)))
                  have t1 : w7.cell? ⟨b, 1, none⟩ = some (.slice (some ⟨g, 0, none⟩) n cg) := ST7.out.r.k.cell 1
                  clear hraw tw1 i2 s2 e1 l1 l2 hR2 hL hF hzs hcw hW hT ST7 hRR HPE HSOE HSK HVB VE
                  by_cases hF0 : F = 0
                  · subst hF0
                    have hR3 : Hid ((L, ((cntN (trS l mq r) n : Nat) : Int), 0) = R) := HR2
                    go_upto_region 18 with (go_at_call 39; (with_reducible refine (Ratios_any hD hM HB.out.m3 HB.out.m3 I2.out.fz HP2.out S2.out hzn hn3 hSR).mono ?_); rintro en w9 ⟨a9, c9, φ9, rfl, hi9, hs9⟩; have I9 := Lib.hid (I2.out.call hi9); have S9 := Lib.hid hs9; have t6 : w9.cell? ⟨b, 6, none⟩ = some (.int .i64 ((cntN (trS l mq r) n : Nat) : Int)) := box_cell E2.out hi9.le hi9.fz 6; clear hi9 hs9)
                    have t6d : w9.drew.cell? ⟨b, 6, none⟩ = some (.int .i64 ((cntN (trS l mq r) n : Nat) : Int)) := t6
                    go_quiet (fail)
                    go_wp2
                    go_ret3
                    have h3 := hR3.out
                    subst h3
                    exact ⟨a9, c9, φ9, rfl, I9.out.callB (bdrewN (Below.refl _ w9) _), S9.out⟩
                  · have h0i : (F == 0) = false := by simp [hF0]
                    have h0j : (F != 0) = true := by simp [hF0]
                    have hE : Hid (([], 0, F) = R) := Lib.hid (by rw [← HR2.out, if_pos hF0])
                    go_wp2_with (go_at_call 39; (with_reducible refine (Ratios_any hD hM HB.out.m3 HB.out.m3 I2.out.fz HP2.out S2.out hzn hn3 hSR).mono ?_); rintro en w9 ⟨a9, c9, φ9, rfl, hi9, hs9⟩; have I9 := Lib.hid (I2.out.call hi9); clear hi9 hs9)
                    go_ret3
                    exact TrPost.err hE.out I9.out
                · have hlt2 := (tkA_cnt hcl.out (Nat.le_refl n)).2 hbb.out
                  rw [htl.out] at hlt2
                  have hle3 := cntN_le (trS l mq (r + 1)) n
                  go_wp2_with (first
                    | (go_at_call 58; (with_reducible refine (spread_any hD hM hn3 HB hn hwp hxs HSK HVB hrt hcl2 ST7).mono ?_); rintro en w8 ⟨φ8, rt8, rfl, L8, hrt8, ST8, HW8⟩)
                    | (go_at_call 57; (with_reducible refine (take_any hM hBc hn3 hW HVB hrt hcl hT).mono ?_); rintro en w7 ⟨rfl, ST7⟩; rw [hbb.out]; rw [htl.out] at ST7))
                  have hcw8 := ST8.out.t.cnt hcl2
                  go_roundw
                  case rel => exact ⟨r + 1, φ8, rt8, by omega, Lib.hid (hle.out.trans L8.out), hrt8, ST8, HW8⟩
                  case measure => rw [hcw8, hcw]; omega
end Go.Proofs.YtdlnhmcgnpjooaaGreatDoor
