/- The bounds of sums of up to 3000 short ratios. Conditions: none; plain Lean. -/
import Derived.Test.YtmlpjffnmkndoaaGreatDoorJP
namespace Go.Proofs.YtmlpjffnmkndoaaGreatDoor
open Go.RowKit
set_option linter.unusedVariables false
set_option linter.unusedSimpArgs false
theorem ten_mul {a b i j : Nat} (h1 : a ≤ 10 ^ i) (h2 : b ≤ 10 ^ j) : a * b ≤ 10 ^ (i + j) := by rw [Nat.pow_add]; exact Nat.mul_le_mul h1 h2
theorem ten_le {a i j : Nat} (h : a ≤ 10 ^ i) (hj : i ≤ j) : a ≤ 10 ^ j := Nat.le_trans h (Nat.pow_le_pow_right (by decide) hj)
theorem ten_pow {d n i m : Nat} (h : d ≤ 10 ^ i) (hn : n ≤ m) : d ^ n ≤ 10 ^ (i * m) := by
  refine Nat.le_trans (Nat.pow_le_pow_left h n) ?_
  rw [← Nat.pow_mul]
  exact Nat.pow_le_pow_right (by decide) (Nat.mul_le_mul_left i hn)
theorem efB_ten {M K n : Nat} (hK : Hid (10 ^ K ≤ M)) (hK2 : 150000 ≤ K) (hn : n ≤ 3000) : EfB M 1000000000000 1000000000000 n := by
  obtain ⟨N, hN⟩ : ∃ N, N = 1000000000000 := ⟨_, rfl⟩
  have h1 : N ≤ 10 ^ 12 := by rw [hN]; decide
  rw [← hN]
  obtain ⟨m, hm⟩ : ∃ m, m = 3000 := ⟨_, rfl⟩
  rw [← hm] at hn
  have h0 : n ≤ 10 ^ 4 := by have : (10 : Nat) ^ 4 = 10000 := by decide
                             omega
  have h2 := ten_mul h1 h1
  have h3 := ten_pow h1 hn
  have h4 := ten_pow h2 hn
  have h5 := ten_mul (ten_mul h0 h1) h3
  have h6 := ten_mul (ten_mul h0 h2) h4
  have fin : ∀ {a i : Nat}, a ≤ 10 ^ i → i ≤ K → a ≤ M := fun h hi => Nat.le_trans (ten_le h hi) hK.out
  exact ⟨fin h5 (by omega), fin h3 (by omega), fin h6 (by omega), fin h4 (by omega), fin (ten_mul h5 h5) (by omega), fin (ten_mul h3 h3) (by omega), fin (ten_mul (ten_mul h5 h5) h4) (by omega), fin (ten_mul (ten_mul h3 h3) h6) (by omega), fin h2 (by omega), fin h2 (by omega), fin h1 (by omega)⟩
end Go.Proofs.YtmlpjffnmkndoaaGreatDoor
