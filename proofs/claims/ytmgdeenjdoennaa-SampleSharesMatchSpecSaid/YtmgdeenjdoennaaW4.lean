/- Walks of the reference's total, hits and Hits, and of slices.Equal at []int; that both sides' hits are one function. Conditions: bounds on sizes where sums could wrap. -/
import Derived.Test.YtmgdeenjdoennaaW3
import Derived.Test.YtmgdeenjdoennaaFair
import Derived.Deep.QuietTactic
import Derived.BigQuiet
namespace Go.Proofs.Ytmgdeenjdoennaa
open Go.RowKit
set_option linter.unusedVariables false

theorem total_any (a : Option Addr) (cap : Nat) (l : List Int) (c : Int) (w : World) (φ : Phi) (hφ : Fz φ w) (hs : SlV φ a cap l) (hl : l.length ≤ 1000000) (hc : ∀ x ∈ l, 0 ≤ x ∧ x ≤ c) (hc0 : 0 ≤ c) (hc1 : c ≤ 1000000000000) :
    Calls Try.prog 22 #[.slice a l.length cap] w fun e w' => e = .returned (.int .i64 (sumL l)) ∧ w = w' := by
  go_enter Try.func22, Try.ntmps22
  go_wp2
  go_loop [3, 8] (fun s i => ∃ k : Nat, k ≤ l.length ∧ i = .int .i64 k ∧ s = .int .i64 (sumL (l.take k))) (fun _ i => l.length - (intOf i).toNat)
  case atStart => exact ⟨0, Nat.zero_le _, rfl, rfl⟩
  case round =>
    obtain ⟨k, hk, rfl, rfl⟩ := hrel
    have hb : 0 ≤ sumL (l.take k) ∧ sumL (l.take k) ≤ 1000000000000000000 := by
      have := sumL_bd c (l.take k) (fun x h => hc x (List.mem_of_mem_take h))
      have hl : (l.take k).length ≤ 1000000 := Nat.le_trans (List.length_take_le' _ _) hl
      have h2 : ((l.take k).length : Int) * c ≤ 1000000 * 1000000000000 := Int.mul_le_mul (by omega) hc1 hc0 (by omega)
      omega
    by_cases hlt : k < l.length
    · obtain ⟨b, off, rfl, hcc⟩ := hs.ints hlt
      have hck := (hcc w hφ).2
      have hx := hc _ (List.getElem_mem hlt)
      go_wp2
      go_round
      case rel => exact ⟨k + 1, by omega, by go_num, by rw [take_snoc _ _ hlt, sumL_snoc]⟩
      case measure => simp [intOf]; omega
    · obtain rfl : k = l.length := by omega
      rw [List.take_length] at hb ⊢
      go_wp2
      go_ret
      exact ⟨rfl, rfl⟩

theorem Equal_any (a : Option Addr) (cap : Nat) (xs : List Int) (a2 : Option Addr) (cap2 : Nat) (ys : List Int) (w : World) (φ : Phi) (hφ : Fz φ w) (hs : SlV φ a cap xs) (hs2 : SlV φ a2 cap2 ys) (hl : xs.length ≤ 9223372036854775807) :
    Calls Try.prog 11 #[.slice a xs.length cap, .slice a2 ys.length cap2] w fun e w' => e = .returned (.bool (decide (xs = ys))) ∧ Below w.heap.size w w' := by
  by_cases hlen : xs.length = ys.length
  · have hL := Lib.hid hlen
    rw [← hL.out]
    clear hlen
    have h0 : (((xs.length : Nat) : Int) != (xs.length : Nat)) = false := by simp
    go_enter Try.func11, Try.ntmps11
    go_wp2
    clear h0
    go_loopw [13] (fun i wr => ∃ k : Nat, k ≤ xs.length ∧ i = .int .i64 k ∧ xs.take k = ys.take k ∧ Below w.heap.size w wr) (fun i _ => xs.length - (intOf i).toNat)
    case atStart => exact ⟨0, Nat.zero_le _, rfl, rfl, Below.refl _ _⟩
    case round =>
      obtain ⟨k, hk, rfl, hx, hb⟩ := hrel
      have Hx := Lib.hid hx
      clear hx
      have hf := hφ.below hb
      by_cases hlt : k < xs.length
      · have hlt2 : k < ys.length := by rw [← hL.out]; exact hlt
        obtain ⟨b, off, rfl, hc⟩ := hs.ints hlt
        obtain ⟨b2, off2, rfl, hc2⟩ := hs2.ints hlt2
        have c1 := (hc wr hf).2
        have c2 := (hc2 wr hf).2
        have hi1 : (k : Int) < xs.length := by omega
        generalize hp : xs[k] = p at *
        generalize hq : ys[k] = q at *
        have hp := Lib.hid hp
        have hq := Lib.hid hq
        by_cases he : p = q
        · subst he
          go_wp2_with fail
          go_quiet (fail)
          go_wp2
          go_roundw
          case rel => exact ⟨k + 1, by omega, by go_num, by rw [take_snoc _ _ hlt, take_snoc _ _ hlt2, Hx.out, hp.out, hq.out], bdrewN hb _⟩
          case measure => simp [intOf]; omega
        · have hne : (p != q) = true := by simp [he]
          have HE := Lib.hid he
          clear he
          go_wp2_with fail
          go_quiet (fail)
          go_wp2
          go_ret
          exact ⟨ret_bool (decide_eq_false (by intro e; subst e; exact HE.out (hp.out.symm.trans hq.out))).symm, bdrewN hb _⟩
      · obtain rfl : k = xs.length := by omega
        go_wp2
        go_ret
        have e : xs = ys := by
          have := Hx.out
          rw [List.take_length, hL.out, List.take_length] at this
          exact this
        exact ⟨ret_bool (decide_eq_true e).symm, hb⟩
  · have hne : (((xs.length : Nat) : Int) != (ys.length : Nat)) = true := by simp; omega
    have hL := Lib.hid hlen
    clear hlen
    go_enter Try.func11, Try.ntmps11
    go_wp2
    go_ret
    exact ⟨ret_bool (decide_eq_false (by intro e; exact hL.out (by rw [e]))).symm, Below.refl _ _⟩
end Go.Proofs.Ytmgdeenjdoennaa
