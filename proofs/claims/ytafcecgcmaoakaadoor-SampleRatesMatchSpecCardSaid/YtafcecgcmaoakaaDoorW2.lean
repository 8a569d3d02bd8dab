/- Rotations: the walks of CheckRotation, groups and Groups on both sides. Conditions: none beyond what the claim form gives. -/
import Derived.Test.YtafcecgcmaoakaaDoorW1
import Derived.Test.YtafcecgcmaoakaaDoorA3
namespace Go.Proofs.YtafcecgcmaoakaaDoor
open Go.RowKit
set_option linter.unusedVariables false
theorem sout_any (n lo hi : Int) (w : World) :
    Calls Tryd.prog 27 #[.int .i64 n, .int .i64 lo, .int .i64 hi] w fun e w' => e = .returned (.bool (outB n lo hi)) ∧ w = w' := by
  go_enter Tryd.func27, Tryd.ntmps27
  by_cases h : n < lo
  · go_wp2
    go_ret
    exact ⟨by simp [outB, h], rfl⟩
  · go_wp2
    go_ret
    exact ⟨by simp [outB]; omega, rfl⟩
theorem sout_b {n lo hi : Int} {b : Bool} (h : outB n lo hi = b) (w : World) :
    Calls Tryd.prog 27 #[.int .i64 n, .int .i64 lo, .int .i64 hi] w fun e w' => e = .returned (.bool b) ∧ w = w' := by rw [← h]; exact sout_any n lo hi w
theorem sin_any (n lo hi : Int) (w : World) :
    Calls Tryd.prog 29 #[.int .i64 n, .int .i64 lo, .int .i64 hi] w fun e w' => e = .returned (.bool (!outB n lo hi)) ∧ w = w' := by
  go_enter Tryd.func29, Tryd.ntmps29
  by_cases h : n < lo
  · go_wp2
    go_ret
    exact ⟨by simp [outB, h], rfl⟩
  · by_cases h2 : n ≤ hi
    · go_wp2
      go_ret
      exact ⟨ret_bool (by rw [outB_false.2 (by omega)]; simp [h2]), rfl⟩
    · go_wp2
      go_ret
      exact ⟨ret_bool (by rw [outB_true.2 (by omega)]; simp [h2]), rfl⟩
theorem sin_b {n lo hi : Int} {b : Bool} (h : (!outB n lo hi) = b) (w : World) :
    Calls Tryd.prog 29 #[.int .i64 n, .int .i64 lo, .int .i64 hi] w fun e w' => e = .returned (.bool b) ∧ w = w' := by rw [← h]; exact sin_any n lo hi w
theorem CheckRotation_any {x y z F : Int} (hF : Hid (rotF (x, y, z) = F)) (w : World) :
    Calls Tryd.prog 15 #[.agg #[.int .i64 x, .int .i64 y, .int .i64 z]] w (fun e w' => e = .returned (.int .i64 F) ∧ Below w.heap.size w w') := by
  obtain ⟨b1, h1⟩ : ∃ b, Hid ((outB x 1 1000) = b) := ⟨_, Lib.hid rfl⟩
  obtain ⟨b2, h2⟩ : ∃ b, Hid ((outB y 0 1000) = b) := ⟨_, Lib.hid rfl⟩
  obtain ⟨b3, h3⟩ : ∃ b, Hid ((outB z 0 1000) = b) := ⟨_, Lib.hid rfl⟩
  have k1 : outB x 1 1000 = (b1) := by rw [← h1.out]
  have k2 : outB y 0 1000 = (b2) := by rw [← h2.out]
  have k3 : outB z 0 1000 = (b3) := by rw [← h3.out]
  have HB := Lib.hid ((Below.refl w.heap.size w).alloc (Nat.le_refl _) (.cells #[.int .i64 x, .int .i64 y, .int .i64 z] 41))
  have HF : Hid (F = if (b1) || (b2) || (b3) then 1 else if z = 0 ∧ y ≠ 0 then 3 else 0) := Lib.hid (by have := hF.out; unfold rotF at this; rw [k1, k2, k3] at this; exact this.symm)
  clear hF k1 k2 k3
  have HZ := Lib.hid (Classical.em (z = 0))
  have HY := Lib.hid (Classical.em (y = 0))
  cases b1 <;> cases b2 <;> cases b3
  case false.false.false =>
    by_cases hz : z = 0
    · subst hz
      by_cases hy : y = 0
      · subst hy
        go_enter Tryd.func15, Tryd.ntmps15
        go_wp2_with (go_at_call 27; first | (with_reducible refine (sout_b h1.out _).mono ?_; rintro e w' ⟨rfl, rfl⟩) | (with_reducible refine (sout_b h2.out _).mono ?_; rintro e w' ⟨rfl, rfl⟩) | (with_reducible refine (sout_b h3.out _).mono ?_; rintro e w' ⟨rfl, rfl⟩))
        go_ret
        exact ⟨ret_int (by rw [HF.out]; simp), HB.out⟩
      · have hy' : ((y : Int) != 0) = true := by simp [hy]
        have HYY := Lib.hid hy
        go_enter Tryd.func15, Tryd.ntmps15
        go_wp2_with (go_at_call 27; first | (with_reducible refine (sout_b h1.out _).mono ?_; rintro e w' ⟨rfl, rfl⟩) | (with_reducible refine (sout_b h2.out _).mono ?_; rintro e w' ⟨rfl, rfl⟩) | (with_reducible refine (sout_b h3.out _).mono ?_; rintro e w' ⟨rfl, rfl⟩))
        go_ret
        exact ⟨ret_int (by rw [HF.out]; simp [HYY.out]), HB.out⟩
    · have hz' : ((z : Int) == 0) = false := by simp [hz]
      have HZZ := Lib.hid hz
      go_enter Tryd.func15, Tryd.ntmps15
      go_wp2_with (go_at_call 27; first | (with_reducible refine (sout_b h1.out _).mono ?_; rintro e w' ⟨rfl, rfl⟩) | (with_reducible refine (sout_b h2.out _).mono ?_; rintro e w' ⟨rfl, rfl⟩) | (with_reducible refine (sout_b h3.out _).mono ?_; rintro e w' ⟨rfl, rfl⟩))
      go_ret
      exact ⟨ret_int (by rw [HF.out]; simp [HZZ.out]), HB.out⟩
  all_goals
    go_enter Tryd.func15, Tryd.ntmps15
    go_wp2_with (go_at_call 27; first | (with_reducible refine (sout_b h1.out _).mono ?_; rintro e w' ⟨rfl, rfl⟩) | (with_reducible refine (sout_b h2.out _).mono ?_; rintro e w' ⟨rfl, rfl⟩) | (with_reducible refine (sout_b h3.out _).mono ?_; rintro e w' ⟨rfl, rfl⟩))
    go_ret
    exact ⟨ret_int (by rw [HF.out]; simp), HB.out⟩
theorem RCheckRotation_any {x y z F : Int} (hF : Hid (rotF (x, y, z) = F)) (w : World) :
    Calls Tryd.prog 16 #[.agg #[.int .i64 x, .int .i64 y, .int .i64 z]] w (fun e w' => e = .returned (.int .i64 F) ∧ Below w.heap.size w w') := by
  obtain ⟨b1, h1⟩ : ∃ b, Hid ((!outB x 1 1000) = b) := ⟨_, Lib.hid rfl⟩
  obtain ⟨b2, h2⟩ : ∃ b, Hid ((!outB y 0 1000) = b) := ⟨_, Lib.hid rfl⟩
  obtain ⟨b3, h3⟩ : ∃ b, Hid ((!outB z 0 1000) = b) := ⟨_, Lib.hid rfl⟩
  have k1 : outB x 1 1000 = (!b1) := by rw [← h1.out, Bool.not_not]
  have k2 : outB y 0 1000 = (!b2) := by rw [← h2.out, Bool.not_not]
  have k3 : outB z 0 1000 = (!b3) := by rw [← h3.out, Bool.not_not]
  have HB := Lib.hid ((Below.refl w.heap.size w).alloc (Nat.le_refl _) (.cells #[.int .i64 x, .int .i64 y, .int .i64 z] 41))
  have HF : Hid (F = if (!b1) || (!b2) || (!b3) then 1 else if z = 0 ∧ y ≠ 0 then 3 else 0) := Lib.hid (by have := hF.out; unfold rotF at this; rw [k1, k2, k3] at this; exact this.symm)
  clear hF k1 k2 k3
  have HZ := Lib.hid (Classical.em (z = 0))
  have HY := Lib.hid (Classical.em (y = 0))
  cases b1 <;> cases b2 <;> cases b3
  case true.true.true =>
    by_cases hz : z = 0
    · subst hz
      by_cases hy : y = 0
      · subst hy
        go_enter Tryd.func16, Tryd.ntmps16
        go_wp2_with (go_at_call 29; first | (with_reducible refine (sin_b h1.out _).mono ?_; rintro e w' ⟨rfl, rfl⟩) | (with_reducible refine (sin_b h2.out _).mono ?_; rintro e w' ⟨rfl, rfl⟩) | (with_reducible refine (sin_b h3.out _).mono ?_; rintro e w' ⟨rfl, rfl⟩))
        go_ret
        exact ⟨ret_int (by rw [HF.out]; simp), HB.out⟩
      · have hy' : ((y : Int) != 0) = true := by simp [hy]
        have HYY := Lib.hid hy
        go_enter Tryd.func16, Tryd.ntmps16
        go_wp2_with (go_at_call 29; first | (with_reducible refine (sin_b h1.out _).mono ?_; rintro e w' ⟨rfl, rfl⟩) | (with_reducible refine (sin_b h2.out _).mono ?_; rintro e w' ⟨rfl, rfl⟩) | (with_reducible refine (sin_b h3.out _).mono ?_; rintro e w' ⟨rfl, rfl⟩))
        go_ret
        exact ⟨ret_int (by rw [HF.out]; simp [HYY.out]), HB.out⟩
    · have hz' : ((z : Int) == 0) = false := by simp [hz]
      have HZZ := Lib.hid hz
      go_enter Tryd.func16, Tryd.ntmps16
      go_wp2_with (go_at_call 29; first | (with_reducible refine (sin_b h1.out _).mono ?_; rintro e w' ⟨rfl, rfl⟩) | (with_reducible refine (sin_b h2.out _).mono ?_; rintro e w' ⟨rfl, rfl⟩) | (with_reducible refine (sin_b h3.out _).mono ?_; rintro e w' ⟨rfl, rfl⟩))
      go_ret
      exact ⟨ret_int (by rw [HF.out]; simp [HZZ.out]), HB.out⟩
  all_goals
    go_enter Tryd.func16, Tryd.ntmps16
    go_wp2_with (go_at_call 29; first | (with_reducible refine (sin_b h1.out _).mono ?_; rintro e w' ⟨rfl, rfl⟩) | (with_reducible refine (sin_b h2.out _).mono ?_; rintro e w' ⟨rfl, rfl⟩) | (with_reducible refine (sin_b h3.out _).mono ?_; rintro e w' ⟨rfl, rfl⟩))
    go_ret
    exact ⟨ret_int (by rw [HF.out]; simp), HB.out⟩
end Go.Proofs.YtafcecgcmaoakaaDoor
