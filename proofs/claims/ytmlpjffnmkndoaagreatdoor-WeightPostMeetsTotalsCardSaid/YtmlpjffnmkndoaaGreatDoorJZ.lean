/- The plain law of lists of ratios. The plain law of sums of exact numbers. The plain law of the spread of weights. The plain law of answers: weights of those who have answered. Conditions: none beyond what the claim form gives. -/
import Derived.Test.YtmlpjffnmkndoaaGreatDoorJ1
import Derived.Test.YtmlpjffnmkndoaaGreatDoorPB
import Derived.Test.YtmlpjffnmkndoaaGreatDoorJA
import Derived.Test.YtmlpjffnmkndoaaGreatDoorPD
namespace Go.Proofs.YtmlpjffnmkndoaaGreatDoor
open Go.RowKit
set_option linter.unusedVariables false
set_option linter.unusedSimpArgs false
/-- The error of an exact number as a ratio. -/
noncomputable def shtF (x : Rat) : Int := (ratR x).2.2
noncomputable def shtT (x : Rat) : Rti := ((ratR x).1, (ratR x).2.1)
/-- Exact numbers as ratios. -/
noncomputable def shtR (xs : List Rat) : List Rti × Int :=
  if scan (fun i => shtF (xs.getD i 0)) xs.length = 0 then (xs.map shtT, 0) else ([], scan (fun i => shtF (xs.getD i 0)) xs.length)
theorem shtR_err {xs : List Rat} {k n : Nat} (hn : xs.length = n) (hk : k < n) (h0 : ∀ i, i < k → shtF (xs.getD i 0) = 0) {g : Int} (hg : shtF (xs.getD k 0) = g) (hne : g ≠ 0) : shtR xs = ([], g) := by
  subst hn
  have e := scan_stop (f := fun i => shtF (xs.getD i 0)) h0 hk (by show shtF (xs.getD k 0) ≠ 0; rw [hg]; exact hne)
  have e2 : scan (fun i => shtF (xs.getD i 0)) xs.length = g := e.trans hg
  unfold shtR
  rw [e2, if_neg hne]
theorem shtR_ok {xs : List Rat} {n : Nat} (hn : xs.length = n) (h0 : ∀ i, i < n → shtF (xs.getD i 0) = 0) : shtR xs = (xs.map shtT, 0) := by
  subst hn
  have e : scan (fun i => shtF (xs.getD i 0)) xs.length = 0 := scan_zero _ _ h0
  unfold shtR
  rw [e, if_pos rfl]
end Go.Proofs.YtmlpjffnmkndoaaGreatDoor

namespace Go.Proofs.YtmlpjffnmkndoaaGreatDoor
open Go.RowKit
set_option linter.unusedVariables false
set_option linter.unusedSimpArgs false
def sumQ : List Rat → Rat
  | [] => 0
  | x :: xs => x + sumQ xs
theorem sumQ_append (a b : List Rat) : sumQ (a ++ b) = sumQ a + sumQ b := by
  induction a with
  | nil => show sumQ b = 0 + sumQ b; grind
  | cons x xs ih => show x + sumQ (xs ++ b) = x + sumQ xs + sumQ b; rw [ih]; grind
theorem sumQ_snoc (a : List Rat) (x : Rat) : sumQ (a ++ [x]) = sumQ a + x := by
  rw [sumQ_append]; show sumQ a + (x + 0) = _; grind
theorem sumQ_step {xs : List Rat} {n k : Nat} (hn : xs.length = n) (hk : k < n) : sumQ (xs.take (k + 1)) = sumQ (xs.take k) + xs.getD k 0 := by
  rw [take_snocD 0 xs k n hn hk, sumQ_snoc]
theorem sumB_step {N D k : Nat} (hD : 1 ≤ D) : k * N * D ^ k * D + N * D ^ k ≤ (k + 1) * N * D ^ (k + 1) := by
  have h1 : N * D ^ k ≤ N * D ^ (k + 1) := Nat.mul_le_mul_left _ (Nat.pow_le_pow_right hD (Nat.le_succ k))
  have h2 : k * N * D ^ k * D = k * N * D ^ (k + 1) := by rw [Nat.mul_assoc (k * N), ← Nat.pow_succ]
  have h3 : (k + 1) * N * D ^ (k + 1) = k * N * D ^ (k + 1) + N * D ^ (k + 1) := by rw [Nat.add_mul, Nat.add_mul, Nat.one_mul]
  omega
theorem sumB_mono {N D k n : Nat} (hD : 1 ≤ D) (hk : k ≤ n) : k * N * D ^ k ≤ n * N * D ^ n :=
  Nat.mul_le_mul (Nat.mul_le_mul_right _ hk) (Nat.pow_le_pow_right hD hk)
theorem powB_mono {D k n : Nat} (hD : 1 ≤ D) (hk : k ≤ n) : D ^ k ≤ D ^ n := Nat.pow_le_pow_right hD hk
/-- A box for a sum, and a result's cell. -/
structure SmS (E : TypeId) (w0 : World) (φ0 φ : Phi) (b c : Nat) (cs : Array Value) (W : World) : Prop where
  r : RsSt w0 φ0 φ b #[.bool false, .slice none 0 0, .slice none 0 0] E W
  s : RsSt w0 φ0 φ c cs E W
  ne : c ≠ b
section
variable {E : TypeId} {w0 W w' : World} {φ0 φ φ' : Phi} {b c : Nat} {cs : Array Value}
theorem SmS.call (h : SmS E w0 φ0 φ b c cs W) (hi : Inv W.heap.size W φ φ' w') : SmS E w0 φ0 φ' b c cs w' := ⟨h.r.call hi, h.s.call hi, h.ne⟩
theorem SmS.callB (h : SmS E w0 φ0 φ b c cs W) (hb : Below W.heap.size W w') : SmS E w0 φ0 φ b c cs w' := ⟨h.r.callB hb, h.s.callB hb, h.ne⟩
theorem SmS.set (h : SmS E w0 φ0 φ b c cs W) (j : Nat) (u : Value) : SmS E w0 φ0 φ b c (cs.setIfInBounds j u) (W.setCell ⟨c, j, none⟩ u) := ⟨h.r.oth h.s h.ne j u, h.s.set j u, h.ne⟩
end
end Go.Proofs.YtmlpjffnmkndoaaGreatDoor

namespace Go.Proofs.YtmlpjffnmkndoaaGreatDoor
open Go.RowKit
set_option linter.unusedVariables false
set_option linter.unusedSimpArgs false
/-- The least of the first k numbers, and the first one. -/
noncomputable def lowK (xs : List Rat) : Nat → Rat
  | 0 => xs.getD 0 0
  | k + 1 => if cmpQ (xs.getD k 0) (lowK xs k) < 0 then xs.getD k 0 else lowK xs k
noncomputable def topK (xs : List Rat) : Nat → Rat
  | 0 => xs.getD 0 0
  | k + 1 => if 0 < cmpQ (xs.getD k 0) (topK xs k) then xs.getD k 0 else topK xs k
theorem lowK_lt {xs : List Rat} {k : Nat} {q : Int} (h : cmpQ (xs.getD k 0) (lowK xs k) = q) (hq : q < 0) : lowK xs (k + 1) = xs.getD k 0 := by
  show (if cmpQ (xs.getD k 0) (lowK xs k) < 0 then xs.getD k 0 else lowK xs k) = _
  rw [h, if_pos hq]
theorem lowK_ge {xs : List Rat} {k : Nat} {q : Int} (h : cmpQ (xs.getD k 0) (lowK xs k) = q) (hq : ¬ q < 0) : lowK xs (k + 1) = lowK xs k := by
  show (if cmpQ (xs.getD k 0) (lowK xs k) < 0 then xs.getD k 0 else lowK xs k) = _
  rw [h, if_neg hq]
theorem topK_gt {xs : List Rat} {k : Nat} {q : Int} (h : cmpQ (xs.getD k 0) (topK xs k) = q) (hq : 0 < q) : topK xs (k + 1) = xs.getD k 0 := by
  show (if 0 < cmpQ (xs.getD k 0) (topK xs k) then xs.getD k 0 else topK xs k) = _
  rw [h, if_pos hq]
theorem topK_le {xs : List Rat} {k : Nat} {q : Int} (h : cmpQ (xs.getD k 0) (topK xs k) = q) (hq : ¬ 0 < q) : topK xs (k + 1) = topK xs k := by
  show (if 0 < cmpQ (xs.getD k 0) (topK xs k) then xs.getD k 0 else topK xs k) = _
  rw [h, if_neg hq]
theorem sumQ_pos : ∀ {xs : List Rat}, xs ≠ [] → (∀ x ∈ xs, 0 < x) → 0 < sumQ xs
  | [], h, _ => absurd rfl h
  | [x], _, h => by
    have := h x (by simp)
    show 0 < x + 0
    grind
  | x :: y :: ys, _, h => by
    have h1 := h x (by simp)
    have h2 := sumQ_pos (xs := y :: ys) (by simp) (fun z hz => h z (by simp at hz ⊢; exact .inr hz))
    show 0 < x + sumQ (y :: ys)
    grind
/-- The six numbers of a spread. -/
noncomputable def sprL (xs : List Rat) : List Rat :=
  [sumQ xs, lowK xs xs.length, topK xs xs.length, sumQ xs / (xs.length : Int), sumQ xs * sumQ xs / sumQ (xs.map (fun x => x * x)), (xs.length : Int) / (sumQ xs * sumQ xs / sumQ (xs.map (fun x => x * x)))]
/-- SpreadOf: the six ratios and the error. -/
noncomputable def sprR (l : List Psn) : List Rti × Int :=
  if pplF l ≠ 0 then ([], pplF l) else if l = [] then ([], 9) else shtR (sprL (l.map (fun p => ratX p.1.1 p.1.2)))
end Go.Proofs.YtmlpjffnmkndoaaGreatDoor

namespace Go.Proofs.YtmlpjffnmkndoaaGreatDoor
open Go.RowKit
set_option linter.unusedVariables false
set_option linter.unusedSimpArgs false
/-- The sum of the first k values. -/
def sumF (f : Nat → Rat) : Nat → Rat
  | 0 => 0
  | k + 1 => sumF f k + f k
/-- A person's class and weight. -/
def clsI (l : List Psn) (i : Nat) : Int := (l.getD i psn0).2.2.1
noncomputable def wgtQ (l : List Psn) (i : Nat) : Rat := ratX (l.getD i psn0).1.1 (l.getD i psn0).1.2
noncomputable def rspA (l : List Psn) (i k : Nat) : Rat := if clsI l k = clsI l i then wgtQ l k else 0
noncomputable def rspO (l : List Psn) (an : List Bool) (i k : Nat) : Rat := if clsI l k = clsI l i then (if an.getD k false then wgtQ l k else 0) else 0
noncomputable def allQ (l : List Psn) (i : Nat) : Rat := sumF (rspA l i) l.length
noncomputable def ownQ (l : List Psn) (an : List Bool) (i : Nat) : Rat := sumF (rspO l an i) l.length
noncomputable def rspX (l : List Psn) (an : List Bool) (i : Nat) : Rat := if an.getD i false then wgtQ l i * allQ l i / ownQ l an i else 0
noncomputable def rspF (l : List Psn) (an : List Bool) (i : Nat) : Int := if ownQ l an i = 0 then 19 else 0
/-- Respond: the ratios and the error. -/
noncomputable def respR (l : List Psn) (an : List Bool) : List Rti × Int :=
  if pplF l ≠ 0 then ([], pplF l) else if an.length ≠ l.length then ([], 3) else if scan (rspF l an) l.length ≠ 0 then ([], 19) else shtR ((List.range l.length).map (rspX l an))
theorem rspA_eq {l : List Psn} {i k : Nat} (h : clsI l k = clsI l i) : sumF (rspA l i) (k + 1) = sumF (rspA l i) k + wgtQ l k := by
  show sumF (rspA l i) k + rspA l i k = _
  unfold rspA; rw [if_pos h]
theorem rspA_ne {l : List Psn} {i k : Nat} (h : ¬ clsI l k = clsI l i) : sumF (rspA l i) (k + 1) = sumF (rspA l i) k := by
  show sumF (rspA l i) k + rspA l i k = _
  have e : rspA l i k = 0 := by unfold rspA; rw [if_neg h]
  rw [e, Rat.add_zero]
theorem rspO_eq {l : List Psn} {an : List Bool} {i k : Nat} (h : clsI l k = clsI l i) (ha : an.getD k false = true) : sumF (rspO l an i) (k + 1) = sumF (rspO l an i) k + wgtQ l k := by
  show sumF (rspO l an i) k + rspO l an i k = _
  unfold rspO; rw [if_pos h, if_pos ha]
theorem rspO_ne {l : List Psn} {an : List Bool} {i k : Nat} (h : ¬ (clsI l k = clsI l i ∧ an.getD k false = true)) : sumF (rspO l an i) (k + 1) = sumF (rspO l an i) k := by
  show sumF (rspO l an i) k + rspO l an i k = _
  have e : rspO l an i k = 0 := by
    unfold rspO
    by_cases h1 : clsI l k = clsI l i
    · rw [if_pos h1, if_neg (fun h2 => h ⟨h1, h2⟩)]
    · rw [if_neg h1]
  rw [e, Rat.add_zero]
theorem respR_form {l : List Psn} {an : List Bool} (h : pplF l = 0) (hn : an.length ≠ l.length) : respR l an = ([], 3) := by
  unfold respR; rw [if_neg (by rw [h]; decide), if_pos hn]
theorem respR_zero {l : List Psn} {an : List Bool} {n k : Nat} (h : pplF l = 0) (hn : l.length = n) (ha : an.length = n) (hk : k < n) (hz : ownQ l an k = 0) : respR l an = ([], 19) := by
  unfold respR
  rw [if_neg (by rw [h]; decide), if_neg (by rw [ha, hn]; simp), if_pos]
  intro e
  have := scan_all _ e k (by rw [hn]; exact hk)
  unfold rspF at this
  rw [if_pos hz] at this
  exact absurd this (by decide)
theorem respR_ok {l : List Psn} {an : List Bool} {n : Nat} (h : pplF l = 0) (hn : l.length = n) (ha : an.length = n) (hz : ∀ k, k < n → ownQ l an k ≠ 0) : respR l an = shtR ((List.range n).map (rspX l an)) := by
  have e : scan (rspF l an) l.length = 0 := scan_zero _ _ (fun i hi => by unfold rspF; rw [if_neg (hz i (by rw [← hn]; exact hi))])
  unfold respR
  rw [if_neg (by rw [h]; decide), if_neg (by rw [ha, hn]; simp), e, if_neg (by simp), hn]
theorem range_snoc (f : Nat → Rat) (k : Nat) : (List.range (k + 1)).map f = (List.range k).map f ++ [f k] := by
  rw [List.range_succ, List.map_append]; rfl
end Go.Proofs.YtmlpjffnmkndoaaGreatDoor
