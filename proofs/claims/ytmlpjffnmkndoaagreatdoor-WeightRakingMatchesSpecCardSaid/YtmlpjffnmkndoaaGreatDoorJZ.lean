/- The plain law of lists of ratios. The plain law of sums of exact numbers. The plain law of the spread of weights. The plain law of answers: weights of those who have answered. Conditions: none beyond what the claim form gives. -/
import Derived.Test.YtmlpjffnmkndoaaGreatDoorJ1
import Derived.Test.YtmlpjffnmkndoaaGreatDoorPB
import Derived.Test.YtmlpjffnmkndoaaGreatDoorJA
import Derived.Test.YtmlpjffnmkndoaaGreatDoorPD
namespace Go.Proofs.YtmlpjffnmkndoaaGreatDoor
open Go.RowKit
set_option linter.unusedVariables false
set_option linter.unusedSimpArgs false
/-- The error of an exact number as a ratio. -/
noncomputable def shtF (x : Rat) : Int := (ratR x).2.2
noncomputable def shtT (x : Rat) : Rti := ((ratR x).1, (ratR x).2.1)
/-- Exact numbers as ratios. -/
noncomputable def shtR (xs : List Rat) : List Rti × Int :=
 if scan (fun i => shtF (xs.getD i 0)) xs.length = 0 then (xs.map shtT, 0) else ([], scan (fun i => shtF (xs.getD i 0)) xs.length)
theorem shtR_err {xs : List Rat} {k n : Nat} (hn : xs.length = n) (hk : k < n) (h0 : ∀ i, i < k → shtF (xs.getD i 0) = 0) {g : Int} (hg : shtF (xs.getD k 0) = g) (hne : g ≠ 0) : shtR xs = ([], g) := by
 subst hn
 have e := scan_stop (f := fun i => shtF (xs.getD i 0)) h0 hk (by show shtF (xs.getD k 0) ≠ 0; rw [hg]; exact hne)
 have e2 : scan (fun i => shtF (xs.getD i 0)) xs.length = g := e.trans hg
 unfold shtR
 rw [e2, if_neg hne]
theorem shtR_ok {xs : List Rat} {n : Nat} (hn : xs.length = n) (h0 : ∀ i, i < n → shtF (xs.getD i 0) = 0) : shtR xs = (xs.map shtT, 0) := by
 subst hn
 have e : scan (fun i => shtF (xs.getD i 0)) xs.length = 0 := scan_zero _ _ h0
 unfold shtR
 rw [e, if_pos rfl]
end Go.Proofs.YtmlpjffnmkndoaaGreatDoor

namespace Go.Proofs.YtmlpjffnmkndoaaGreatDoor
open Go.RowKit
set_option linter.unusedVariables false
set_option linter.unusedSimpArgs false
def sumQ : List Rat → Rat
 | [] => 0
 | x :: xs => x + sumQ xs
theorem sumQ_append (a b : List Rat) : sumQ (a ++ b) = sumQ a + sumQ b := by
 induction a with
 | nil => show sumQ b = 0 + sumQ b; grind
 | cons x xs ih => show x + sumQ (xs ++ b) = x + sumQ xs + sumQ b; rw [ih]; grind
theorem sumQ_snoc (a : List Rat) (x : Rat) : sumQ (a ++ [x]) = sumQ a + x := by
 rw [sumQ_append]; show sumQ a + (x + 0) = _; grind
theorem sumQ_step {xs : List Rat} {n k : Nat} (hn : xs.length = n) (hk : k < n) : sumQ (xs.take (k + 1)) = sumQ (xs.take k) + xs.getD k 0 := by
 rw [take_snocD 0 xs k n hn hk, sumQ_snoc]
theorem sumB_step {N D k : Nat} (hD : 1 ≤ D) : k * N * D ^ k * D + N * D ^ k ≤ (k + 1) * N * D ^ (k + 1) := by
 have h1 : N * D ^ k ≤ N * D ^ (k + 1) := Nat.mul_le_mul_left _ (Nat.pow_le_pow_right hD (Nat.le_succ k))
 have h2 : k * N * D ^ k * D = k * N * D ^ (k + 1) := by rw [Nat.mul_assoc (k * N), ← Nat.pow_succ]
 have h3 : (k + 1) * N * D ^ (k + 1) = k * N * D ^ (k + 1) + N * D ^ (k + 1) := by rw [Nat.add_mul, Nat.add_mul, Nat.one_mul]
 omega
theorem sumB_mono {N D k n : Nat} (hD : 1 ≤ D) (hk : k ≤ n) : k * N * D ^ k ≤ n * N * D ^ n :=
 Nat.mul_le_mul (Nat.mul_le_mul_right _ hk) (Nat.pow_le_pow_right hD hk)
theorem powB_mono {D k n : Nat} (hD : 1 ≤ D) (hk : k ≤ n) : D ^ k ≤ D ^ n := Nat.pow_le_pow_right hD hk
/-- A box for a sum, and a result's cell. -/
structure SmS (E : TypeId) (w0 : World) (φ0 φ : Phi) (b c : Nat) (cs : Array Value) (W : World) : Prop where
 r : RsSt w0 φ0 φ b #[.bool false, .slice none 0 0, .slice none 0 0] E W
 s : RsSt w0 φ0 φ c cs E W
 ne : c ≠ b
section
variable {E : TypeId} {w0 W w' : World} {φ0 φ φ' : Phi} {b c : Nat} {cs : Array Value}
theorem SmS.call (h : SmS E w0 φ0 φ b c cs W) (hi : Inv W.heap.size W φ φ' w') : SmS E w0 φ0 φ' b c cs w' := ⟨h.r.call hi, h.s.call hi, h.ne⟩
theorem SmS.callB (h : SmS E w0 φ0 φ b c cs W) (hb : Below W.heap.size W w') : SmS E w0 φ0 φ b c cs w' := ⟨h.r.callB hb, h.s.callB hb, h.ne⟩
theorem SmS.set (h : SmS E w0 φ0 φ b c cs W) (j : Nat) (u : Value) : SmS E w0 φ0 φ b c (cs.setIfInBounds j u) (W.setCell ⟨c, j, none⟩ u) := ⟨h.r.oth h.s h.ne j u, h.s.set j u, h.ne⟩
end
end Go.Proofs.YtmlpjffnmkndoaaGreatDoor

namespace Go.Proofs.YtmlpjffnmkndoaaGreatDoor
open Go.RowKit
set_option linter.unusedVariables false
set_option linter.unusedSimpArgs false
end Go.Proofs.YtmlpjffnmkndoaaGreatDoor

namespace Go.Proofs.YtmlpjffnmkndoaaGreatDoor
open Go.RowKit
set_option linter.unusedVariables false
set_option linter.unusedSimpArgs false
/-- The sum of the first k values. -/
def sumF (f : Nat → Rat) : Nat → Rat
 | 0 => 0
 | k + 1 => sumF f k + f k
noncomputable def wgtQ (l : List Psn) (i : Nat) : Rat := ratX (l.getD i psn0).1.1 (l.getD i psn0).1.2
end Go.Proofs.YtmlpjffnmkndoaaGreatDoor
