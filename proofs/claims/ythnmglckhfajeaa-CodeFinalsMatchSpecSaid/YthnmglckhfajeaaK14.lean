/- The walks of slices.Equal at codings and finals. Conditions: none beyond what the claim form gives. -/
import Derived.Test.YthnmglckhfajeaaK13
import Derived.Laws.StructEq
namespace Go.Proofs.Ythnmglckhfajeaa
open Go.RowKit
set_option linter.unusedVariables false

theorem neqC (w : World) (x1 x2 x3 y1 y2 y3 : Int) : (binOp .neq 32 (.agg #[.int .i64 x1, .int .i64 x2, .int .i64 x3]) (.agg #[.int .i64 y1, .int .i64 y2, .int .i64 y3])).run Try.prog w = .ok (.bool (!decide (x1 = y1 ∧ x2 = y2 ∧ x3 = y3))) w := by
  have hu := Try.underlying32
  rw [run_neq_struct, run_equalIn_agg w 9999 _ _ _ (by simp only [Program.fieldsOf, hu]) (by kernel_rfl)]
  simp only [Program.fieldsOf, hu]
  have hi := Try.underlying3
  by_cases h1 : x1 = y1 <;> by_cases h2 : x2 = y2 <;> by_cases h3 : x3 = y3 <;> simp [Op.eqFields, part, Program.cellsOf, h1, h2, h3, run_equalIn_int w _ 3 _ _ _ _ hi, Result.andThen]
set_option maxHeartbeats 1000000 in
theorem EqualC (n : Nat) (a : Option Addr) (cap : Nat) (xs : List Cdg) (m : Nat) (a2 : Option Addr) (cap2 : Nat) (ys : List Cdg) (w : World) (φ : Phi) (hφ : Fz φ w) (hs : SlV φ a cap xs) (hs2 : SlV φ a2 cap2 ys) (h1 : Hid (xs.length = n)) (h2 : Hid (ys.length = m)) (hl : n ≤ 9223372036854775807) :
    Calls Try.prog 10 #[.slice a n cap, .slice a2 m cap2] w fun e w' => e = .returned (.bool (decide (xs = ys))) ∧ Below w.heap.size w w' := by
  by_cases hlen : n = m
  · subst hlen
    have h0 : ((n : Int) != n) = false := by simp
    go_enter Try.func10, Try.ntmps10
    go_wp2
    clear h0
    go_loopw [13] (fun i wr => ∃ k : Nat, k ≤ n ∧ i = .int .i64 k ∧ Hid (xs.take k = ys.take k) ∧ Below w.heap.size w wr) (fun i _ => n - (intOf i).toNat)
    case atStart => exact ⟨0, Nat.zero_le _, rfl, Lib.hid rfl, Below.refl _ _⟩
    case round =>
      obtain ⟨k, hk, rfl, Hx, hb⟩ := hrel
      have hf := hφ.below hb
      by_cases hlt : k < n
      · obtain ⟨b, off, rfl, hc⟩ := hs.cdgD h1 hlt
        obtain ⟨b2, off2, rfl, hc2⟩ := hs2.cdgD h2 hlt
        obtain ⟨c1, c2, c3, c4⟩ := hc k hlt wr hf
        obtain ⟨d1, d2, d3, d4⟩ := hc2 k hlt wr hf
        have hi1 : (k : Int) < n := by omega
        have t1 := Lib.hid (take_snocD cdg0 xs k n h1.out hlt)
        have t2 := Lib.hid (take_snocD cdg0 ys k n h2.out hlt)
        have u1 := Lib.hid (getD_elem0 cdg0 xs k (by rw [h1.out]; exact hlt))
        have u2 := Lib.hid (getD_elem0 cdg0 ys k (by rw [h2.out]; exact hlt))
        generalize hX : xs.getD k cdg0 = X at *
        generalize hY : ys.getD k cdg0 = Y at *
        have HX := Lib.hid hX
        have HY := Lib.hid hY
        clear hX hY hc hc2
        obtain ⟨x1, x2, x3⟩ := X
        obtain ⟨y1, y2, y3⟩ := Y
        dsimp only at c2 c3 c4 d2 d3 d4
        have hgd : Try.prog.eqGuardType Try.prog.depth 32 = false := by kernel_rfl
        by_cases he : x1 = y1 ∧ x2 = y2 ∧ x3 = y3
        · obtain ⟨rfl, rfl, rfl⟩ := he
          have hneq := fun w => neqC w x1 x2 x3 x1 x2 x3
          simp only [and_self, decide_true, Bool.not_true] at hneq
          go_wp2_with fail
          go_quiet (fail)
          go_wp2
          go_roundw
          case rel => exact ⟨k + 1, by omega, by go_num, Lib.hid (by rw [t1.out, t2.out, Hx.out]), bdrewN hb _⟩
          case measure => simp [intOf]; omega
        · have hne : decide (x1 = y1 ∧ x2 = y2 ∧ x3 = y3) = false := decide_eq_false he
          have hneq := fun w => neqC w x1 x2 x3 y1 y2 y3
          simp only [hne, Bool.not_false] at hneq
          have HE := Lib.hid he
          clear he hne
          go_wp2_with fail
          go_quiet (fail)
          go_wp2
          go_ret
          refine ⟨ret_bool (decide_eq_false (fun e => HE.out ?_)).symm, bdrewN hb _⟩
          subst e
          have := HX.out.symm.trans HY.out
          simpa using this
      · obtain rfl : k = n := by omega
        go_wp2
        go_ret
        have e : xs = ys := by
          have := Hx.out
          rw [List.take_of_length_le (by rw [h1.out]; exact Nat.le_refl _), List.take_of_length_le (by rw [h2.out]; exact Nat.le_refl _)] at this
          exact this
        exact ⟨ret_bool (decide_eq_true e).symm, hb⟩
  · have hne : ((n : Int) != m) = true := by simp; omega
    have hL := Lib.hid hlen
    clear hlen
    go_enter Try.func10, Try.ntmps10
    go_wp2
    go_ret
    exact ⟨ret_bool (decide_eq_false (by intro e; exact hL.out (by rw [← h1.out, ← h2.out, e]))).symm, Below.refl _ _⟩
theorem neqF (w : World) (x1 x2 x3 y1 y2 y3 : Int) : (binOp .neq 42 (.agg #[.int .i64 x1, .int .i64 x2, .int .i64 x3]) (.agg #[.int .i64 y1, .int .i64 y2, .int .i64 y3])).run Try.prog w = .ok (.bool (!decide (x1 = y1 ∧ x2 = y2 ∧ x3 = y3))) w := by
  have hu := Try.underlying42
  rw [run_neq_struct, run_equalIn_agg w 9999 _ _ _ (by simp only [Program.fieldsOf, hu]) (by kernel_rfl)]
  simp only [Program.fieldsOf, hu]
  have hi := Try.underlying3
  by_cases h1 : x1 = y1 <;> by_cases h2 : x2 = y2 <;> by_cases h3 : x3 = y3 <;> simp [Op.eqFields, part, Program.cellsOf, h1, h2, h3, run_equalIn_int w _ 3 _ _ _ _ hi, Result.andThen]
set_option maxHeartbeats 1000000 in
theorem EqualF (n : Nat) (a : Option Addr) (cap : Nat) (xs : List Cdg) (m : Nat) (a2 : Option Addr) (cap2 : Nat) (ys : List Cdg) (w : World) (φ : Phi) (hφ : Fz φ w) (hs : SlV φ a cap xs) (hs2 : SlV φ a2 cap2 ys) (h1 : Hid (xs.length = n)) (h2 : Hid (ys.length = m)) (hl : n ≤ 9223372036854775807) :
    Calls Try.prog 16 #[.slice a n cap, .slice a2 m cap2] w fun e w' => e = .returned (.bool (decide (xs = ys))) ∧ Below w.heap.size w w' := by
  by_cases hlen : n = m
  · subst hlen
    have h0 : ((n : Int) != n) = false := by simp
    go_enter Try.func16, Try.ntmps16
    go_wp2
    clear h0
    go_loopw [13] (fun i wr => ∃ k : Nat, k ≤ n ∧ i = .int .i64 k ∧ Hid (xs.take k = ys.take k) ∧ Below w.heap.size w wr) (fun i _ => n - (intOf i).toNat)
    case atStart => exact ⟨0, Nat.zero_le _, rfl, Lib.hid rfl, Below.refl _ _⟩
    case round =>
      obtain ⟨k, hk, rfl, Hx, hb⟩ := hrel
      have hf := hφ.below hb
      by_cases hlt : k < n
      · obtain ⟨b, off, rfl, hc⟩ := hs.cdgD h1 hlt
        obtain ⟨b2, off2, rfl, hc2⟩ := hs2.cdgD h2 hlt
        obtain ⟨c1, c2, c3, c4⟩ := hc k hlt wr hf
        obtain ⟨d1, d2, d3, d4⟩ := hc2 k hlt wr hf
        have hi1 : (k : Int) < n := by omega
        have t1 := Lib.hid (take_snocD cdg0 xs k n h1.out hlt)
        have t2 := Lib.hid (take_snocD cdg0 ys k n h2.out hlt)
        have u1 := Lib.hid (getD_elem0 cdg0 xs k (by rw [h1.out]; exact hlt))
        have u2 := Lib.hid (getD_elem0 cdg0 ys k (by rw [h2.out]; exact hlt))
        generalize hX : xs.getD k cdg0 = X at *
        generalize hY : ys.getD k cdg0 = Y at *
        have HX := Lib.hid hX
        have HY := Lib.hid hY
        clear hX hY hc hc2
        obtain ⟨x1, x2, x3⟩ := X
        obtain ⟨y1, y2, y3⟩ := Y
        dsimp only at c2 c3 c4 d2 d3 d4
        have hgd : Try.prog.eqGuardType Try.prog.depth 42 = false := by kernel_rfl
        by_cases he : x1 = y1 ∧ x2 = y2 ∧ x3 = y3
        · obtain ⟨rfl, rfl, rfl⟩ := he
          have hneq := fun w => neqF w x1 x2 x3 x1 x2 x3
          simp only [and_self, decide_true, Bool.not_true] at hneq
          go_wp2_with fail
          go_quiet (fail)
          go_wp2
          go_roundw
          case rel => exact ⟨k + 1, by omega, by go_num, Lib.hid (by rw [t1.out, t2.out, Hx.out]), bdrewN hb _⟩
          case measure => simp [intOf]; omega
        · have hne : decide (x1 = y1 ∧ x2 = y2 ∧ x3 = y3) = false := decide_eq_false he
          have hneq := fun w => neqF w x1 x2 x3 y1 y2 y3
          simp only [hne, Bool.not_false] at hneq
          have HE := Lib.hid he
          clear he hne
          go_wp2_with fail
          go_quiet (fail)
          go_wp2
          go_ret
          refine ⟨ret_bool (decide_eq_false (fun e => HE.out ?_)).symm, bdrewN hb _⟩
          subst e
          have := HX.out.symm.trans HY.out
          simpa using this
      · obtain rfl : k = n := by omega
        go_wp2
        go_ret
        have e : xs = ys := by
          have := Hx.out
          rw [List.take_of_length_le (by rw [h1.out]; exact Nat.le_refl _), List.take_of_length_le (by rw [h2.out]; exact Nat.le_refl _)] at this
          exact this
        exact ⟨ret_bool (decide_eq_true e).symm, hb⟩
  · have hne : ((n : Int) != m) = true := by simp; omega
    have hL := Lib.hid hlen
    clear hlen
    go_enter Try.func16, Try.ntmps16
    go_wp2
    go_ret
    exact ⟨ret_bool (decide_eq_false (by intro e; exact hL.out (by rw [← h1.out, ← h2.out, e]))).symm, Below.refl _ _⟩
end Go.Proofs.Ythnmglckhfajeaa
