/- The bounds of sums of up to 3000 short ratios. Conditions: none; plain Lean. -/
import Derived.Test.YtmlpjffnmkndoaaGreatDoorJP
namespace Go.Proofs.YtmlpjffnmkndoaaGreatDoor
open Go.RowKit
set_option linter.unusedVariables false
set_option linter.unusedSimpArgs false
theorem ten_mul {a b i j : Nat} (h1 : a ≤ 10 ^ i) (h2 : b ≤ 10 ^ j) : a * b ≤ 10 ^ (i + j) := by rw [Nat.pow_add]; exact Nat.mul_le_mul h1 h2
theorem ten_le {a i j : Nat} (h : a ≤ 10 ^ i) (hj : i ≤ j) : a ≤ 10 ^ j := Nat.le_trans h (Nat.pow_le_pow_right (by decide) hj)
theorem ten_pow {d n i m : Nat} (h : d ≤ 10 ^ i) (hn : n ≤ m) : d ^ n ≤ 10 ^ (i * m) := by
 refine Nat.le_trans (Nat.pow_le_pow_left h n) ?_
 rw [← Nat.pow_mul]
 exact Nat.pow_le_pow_right (by decide) (Nat.mul_le_mul_left i hn)
end Go.Proofs.YtmlpjffnmkndoaaGreatDoor
