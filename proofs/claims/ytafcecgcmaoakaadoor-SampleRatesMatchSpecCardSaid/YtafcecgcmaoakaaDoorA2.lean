/- The plain law of exact numbers: sums, products and quotients of signed fractions. Conditions: none; plain Lean. -/
import Derived.Test.YtafcecgcmaoakaaDoorA1
namespace Go.Proofs.YtafcecgcmaoakaaDoor
set_option linter.unusedVariables false
theorem rat_div (neg : Bool) (n d : Nat) : rat neg n d = Rat.divInt (sgn neg n) (d : Int) := (Rat.divInt_ofNat _ _).symm
theorem sgn_ne {neg : Bool} {n : Nat} (h : 0 < n) : sgn neg n ≠ 0 := by cases neg <;> simp [sgn] <;> omega
theorem rat_over {s1 s2 : Bool} {n1 d1 n2 d2 : Nat} (h1 : 0 < d1) (h2 : 0 < d2) (h3 : 0 < n2) : rat (s1 != s2) (n1 * d2) (d1 * n2) = rat s1 n1 d1 / rat s2 n2 d2 := by
  rw [Rat.div_def, rat_div, rat_div, rat_div, Rat.inv_divInt, Rat.divInt_mul_divInt, Rat.divInt_eq_divInt_iff]
  · cases s1 <;> cases s2 <;> simp [sgn] <;> grind
  · have : 0 < d1 * n2 := Nat.mul_pos h1 h3
    omega
  · have := sgn_ne (neg := s2) h3
    exact Int.mul_ne_zero (by omega) this
theorem rat_times {s1 s2 : Bool} {n1 d1 n2 d2 : Nat} (h1 : 0 < d1) (h2 : 0 < d2) : rat (s1 != s2) (n1 * n2) (d1 * d2) = rat s1 n1 d1 * rat s2 n2 d2 := by
  rw [rat_div, rat_div, rat_div, Rat.divInt_mul_divInt]
  congr 1
  cases s1 <;> cases s2 <;> simp [sgn] <;> grind
theorem rat_plus_same {s : Bool} {n1 d1 n2 d2 : Nat} (h1 : 0 < d1) (h2 : 0 < d2) : rat s (n1 * d2 + n2 * d1) (d1 * d2) = rat s n1 d1 + rat s n2 d2 := by
  rw [rat_div, rat_div, rat_div, Rat.divInt_add_divInt _ _ (by omega) (by omega)]
  congr 1
  cases s <;> simp [sgn] <;> grind
theorem rat_plus_left {s : Bool} {n1 d1 n2 d2 : Nat} (h1 : 0 < d1) (h2 : 0 < d2) (h : n2 * d1 ≤ n1 * d2) : rat s (n1 * d2 - n2 * d1) (d1 * d2) = rat s n1 d1 + rat (!s) n2 d2 := by
  rw [rat_div, rat_div, rat_div, Rat.divInt_add_divInt _ _ (by omega) (by omega)]
  congr 1
  have e : ((n1 * d2 - n2 * d1 : Nat) : Int) = (n1 : Int) * d2 - n2 * d1 := by rw [Int.ofNat_sub h]; simp
  cases s <;> simp [sgn, e] <;> grind
theorem rat_plus_right {s : Bool} {n1 d1 n2 d2 : Nat} (h1 : 0 < d1) (h2 : 0 < d2) (h : n1 * d2 ≤ n2 * d1) : rat (!s) (n2 * d1 - n1 * d2) (d1 * d2) = rat s n1 d1 + rat (!s) n2 d2 := by
  rw [rat_div, rat_div, rat_div, Rat.divInt_add_divInt _ _ (by omega) (by omega)]
  congr 1
  have e : ((n2 * d1 - n1 * d2 : Nat) : Int) = (n2 : Int) * d1 - n1 * d2 := by rw [Int.ofNat_sub h]; simp
  cases s <;> simp [sgn, e] <;> grind
theorem rat_neg_eq (s : Bool) (n d : Nat) : rat (!s) n d = - rat s n d := by
  rw [rat, rat, Rat.neg_mkRat]; cases s <;> simp [sgn]
theorem rat_same_den {s : Bool} {n1 n2 d : Nat} (h1 : 0 < d) : rat s (n1 + n2) d = rat s n1 d + rat s n2 d := by
  rw [← rat_plus_same h1 h1, ← Nat.add_mul]
  rw [rat, rat]
  conv => lhs; rw [← Rat.mkRat_mul_right (a := d) (by omega)]
  congr 1
  cases s <;> simp [sgn] <;> grind
end Go.Proofs.YtafcecgcmaoakaaDoor
