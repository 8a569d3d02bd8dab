/- Walks of the reference's hits and Hits; that both sides' hits are one function. Conditions: bounds on sizes where sums could wrap. -/
import Derived.Test.YtmgdeenjdoennaaW4
import Derived.Test.YtmgdeenjdoennaaT
namespace Go.Proofs.Ytmgdeenjdoennaa
open Go.RowKit
set_option linter.unusedVariables false

def rcnt (lo hi start W : Int) : Nat → Int
  | 0 => 0
  | k + 1 => rcnt lo hi start W k + if lo ≤ start + k * W ∧ start + k * W < hi then 1 else 0
theorem rcnt_bd (lo hi start W : Int) : ∀ k, 0 ≤ rcnt lo hi start W k ∧ rcnt lo hi start W k ≤ k
  | 0 => by simp [rcnt]
  | k + 1 => by have := rcnt_bd lo hi start W k; simp only [rcnt]; split <;> omega
/-- How many lie below a bound. -/
theorem rcnt_below (hi start W : Int) (h0 : 0 ≤ start) (hW : start < W) : ∀ k : Nat, rcnt 0 hi start W k = belowL hi start W k
  | 0 => by
    simp only [rcnt, belowL]
    split
    · rfl
    · have : 0 ≤ (hi - start + W - 1) / W := Int.ediv_nonneg (by omega) (by omega)
      omega
  | k + 1 => by
    have hk : 0 ≤ (k : Int) * W := Int.mul_nonneg (by omega) (by omega)
    have ih := rcnt_below hi start W h0 hW k
    simp only [rcnt, ih]
    unfold belowL
    split
    · rw [if_neg (by omega)]; rfl
    · have e : (start + k * W < hi) ↔ (k : Int) < (hi - start + W - 1) / W := by
        rw [show (k : Int) < (hi - start + W - 1) / W ↔ (k : Int) + 1 ≤ (hi - start + W - 1) / W from Int.add_one_le_iff.symm, Int.le_ediv_iff_mul_le (by omega), Int.add_mul]
        omega
      by_cases hc : start + k * W < hi
      · rw [if_pos ⟨by omega, hc⟩]
        have := e.1 hc
        omega
      · rw [if_neg (fun h => hc h.2)]
        have : ¬ (k : Int) < (hi - start + W - 1) / W := fun h => hc (e.2 h)
        omega
theorem rcnt_split (lo hi start W : Int) (hl : 0 ≤ lo) (hh : lo ≤ hi) (h0 : 0 ≤ start) (hW : start < W) : ∀ k : Nat, rcnt lo hi start W k = rcnt 0 hi start W k - rcnt 0 lo start W k
  | 0 => by simp [rcnt]
  | k + 1 => by
    have hk : 0 ≤ (k : Int) * W := Int.mul_nonneg (by omega) (by omega)
    simp only [rcnt, rcnt_split lo hi start W hl hh h0 hW k]
    repeat' split <;> omega
theorem rcnt_hit (W take start past m : Int) (t0 : 0 ≤ take) (h0 : 0 ≤ start) (hW : start < W) (hp : 0 ≤ past) (hm : 0 ≤ m) :
    rcnt (take * past) (take * past + take * m) start W take.toNat = belowL (take * (past + m)) start W take - belowL (take * past) start W take := by
  have m1 : 0 ≤ take * past := Int.mul_nonneg t0 hp
  have m2 : 0 ≤ take * m := Int.mul_nonneg t0 hm
  rw [rcnt_split _ _ _ _ m1 (by omega) h0 hW, rcnt_below _ _ _ h0 hW, rcnt_below _ _ _ h0 hW, Int.mul_add, Int.toNat_of_nonneg t0]

set_option maxHeartbeats 400000 in
theorem rhits_any (a : Option Addr) (cap : Nat) (sizes : List Int) (take start : Int) (w : World) (φ : Phi) (hφ : Fz φ w) (hs : SlV φ a cap sizes)
    (hlen : sizes.length ≤ 5000) (hpos : ∀ x ∈ sizes, 1 ≤ x ∧ x ≤ 5000000000) (t0 : 0 ≤ take) (t1 : take ≤ 5000) (s0 : 0 ≤ start) (s1 : start < sumL sizes) :
    Calls Try.prog 23 #[.slice a sizes.length cap, .int .i64 take, .int .i64 start] w (SlPost w.heap.size w φ (hitsL sizes take start)) := by
  have hpt : ∀ k, 0 ≤ sumL (sizes.take k) ∧ sumL (sizes.take k) ≤ 5000 * 5000000000 := by
    intro k
    have := sumL_bd 5000000000 (sizes.take k) (fun x hx => by have := hpos x (List.mem_of_mem_take hx); omega)
    have hl : (sizes.take k).length ≤ 5000 := Nat.le_trans (List.length_take_le' _ _) hlen
    omega
  go_enter Try.func23, Try.ntmps23
  go_wp2_with fail
  refine (total_any a cap sizes 5000000000 _ φ hφ hs (by omega) (fun x hx => by have := hpos x hx; omega) (by omega) (by omega)).mono ?_
  rintro e w' ⟨rfl, rfl⟩
  have hw := hpt sizes.length
  rw [List.take_length] at hw
  generalize hW : sumL sizes = W at *
  obtain ⟨T, rfl⟩ := Int.eq_ofNat_of_zero_le t0
  have hW := Lib.hid hW
  go_wp2
  go_loopw [8, 9, 20] (fun o p i wr => ∃ k : Nat, k ≤ sizes.length ∧ i = .int .i64 k ∧ p = .int .i64 (T * sumL (sizes.take k)) ∧ ∃ a' cap', o = .slice a' (hitsTo sizes T start k).length cap' ∧ Inv w.heap.size w φ φ wr ∧ Own w.heap.size φ wr 3 a' cap' (hitsTo sizes T start k)) (fun _ _ i _ => sizes.length - (intOf i).toNat)
  case atStart => exact ⟨0, Nat.zero_le _, rfl, by simp [sumL], none, 0, rfl, Inv.start hφ, Own.nil _ _ _ _⟩
  case round =>
    obtain ⟨k, hk, rfl, rfl, a', cap', rfl, hi, hown⟩ := hrel
    have hb := hpt k
    have hol : (hitsTo sizes T start k).length ≤ k := Nat.le_of_eq (hitsTo_len sizes T start k)
    by_cases hlt : k < sizes.length
    · obtain ⟨b, off, rfl, hc⟩ := hs.ints hlt
      have hck := (hc wr hi.fz).2
      have hx := hpos _ (List.getElem_mem hlt)
      have hP := Lib.hid (show sumL (sizes.take k) = sumL (sizes.take k) from rfl)
      have hX := Lib.hid (show sizes[k] = sizes[k] from rfl)
      have hsn := Lib.hid (hitsTo_snoc sizes T start W _ _ k hlt hW.out rfl rfl)
      have hsum := Lib.hid (sumL_take_succ sizes k hlt)
      have hhit := Lib.hid (rcnt_hit W T start (sumL (sizes.take k)) sizes[k] t0 s0 s1 hb.1 (by omega))
      generalize sumL (sizes.take k) = past at *
      generalize sizes[k] = m at *
      have m1 : 0 ≤ T * past ∧ T * past ≤ 5000 * past := ⟨Int.mul_nonneg t0 (by omega), Int.mul_le_mul_of_nonneg_right t1 (by omega)⟩
      have m2 : 0 ≤ T * m ∧ T * m ≤ 5000 * m := ⟨Int.mul_nonneg t0 (by omega), Int.mul_le_mul_of_nonneg_right t1 (by omega)⟩
      go_wp2
      go_loop [13, 14] (fun n i => ∃ j : Nat, j ≤ T ∧ i = .int .i64 j ∧ n = .int .i64 (rcnt (T * past) (T * past + T * m) start W j)) (fun _ i => T - (intOf i).toNat)
      case atStart => exact ⟨0, Nat.zero_le _, rfl, rfl⟩
      case round =>
        obtain ⟨j, hj, rfl, rfl⟩ := hrel
        have hcb := rcnt_bd (T * past) (T * past + T * m) start W j
        have m3 : 0 ≤ (j : Int) * W ∧ (j : Int) * W ≤ 5000 * W := ⟨Int.mul_nonneg (by omega) (by omega), Int.mul_le_mul_of_nonneg_right (by omega) (by omega)⟩
        by_cases hjt : j < T
        · by_cases h1 : T * past ≤ start + j * W
          · by_cases h2 : start + j * W < T * past + T * m
            · go_wp2
              go_round
              case rel => exact ⟨j + 1, by omega, by go_num, by rw [rcnt, if_pos ⟨h1, h2⟩]⟩
              case measure => simp [intOf]; omega
            · go_wp2
              go_round
              case rel => exact ⟨j + 1, by omega, by go_num, by rw [rcnt, if_neg (by omega)]; simp⟩
              case measure => simp [intOf]; omega
          · go_wp2
            go_round
            case rel => exact ⟨j + 1, by omega, by go_num, by rw [rcnt, if_neg (by omega)]; simp⟩
            case measure => simp [intOf]; omega
        · obtain rfl : j = T := by omega
          have hh := hhit.out
          rw [Int.toNat_natCast] at hh
          rw [hh]
          rw [hh] at hcb
          have hh := Lib.hid hh
          go_wp2_with (at_builtin; refine wpList_app1 rfl _ _ 22 rfl sl22 hi a' cap' _ hown _ _ (belowL (j * (past + m)) start W j - belowL (j * past) start W j) rfl rfl 1 rfl (by omega) ?_; intro a2 cap2 w2 hi2 hown2 _)
          go_wp2
          go_roundw
          case rel => exact ⟨k + 1, by omega, by go_num, by rw [hsum.out, Int.mul_add], a2, cap2, by rw [hsn.out, List.length_append]; rfl, hi2, by rw [hsn.out]; exact hown2⟩
          case measure => simp [intOf]; omega
    · obtain rfl : k = sizes.length := by omega
      go_wp2
      go_ret
      obtain ⟨φ', _, hi', hs', _⟩ := hown.release hi
      exact ⟨a', cap', φ', rfl, hi', hs'⟩

set_option maxHeartbeats 400000 in
theorem RHits_any (a : Option Addr) (cap : Nat) (sizes : List Int) (take start : Int) (w : World) (φ : Phi) (hφ : Fz φ w) (hs : SlV φ a cap sizes) (hm : sizes.length ≤ 9223372036854775807) :
    Calls Try.prog 10 #[.slice a sizes.length cap, .int .i64 take, .int .i64 start] w (SlFPost w.heap.size w φ (HitsF sizes take start)) := by
  by_cases hl : 5000 < sizes.length
  · go_enter Try.func10, Try.ntmps10
    go_wp2
    go_ret2
    exact SlFPost.nil hφ (HitsF_large _ _ hl)
  · have hl : sizes.length ≤ 5000 := by omega
    go_enter Try.func10, Try.ntmps10
    go_wp2
    go_loop [15] (fun i => ∃ k : Nat, k ≤ sizes.length ∧ i = .int .i64 k ∧ ∀ x ∈ sizes.take k, outB x 1 5000000000 = false) (fun i => sizes.length - (intOf i).toNat)
    case atStart => exact ⟨0, Nat.zero_le _, rfl, by simp⟩
    case round =>
      obtain ⟨k, hk, rfl, hx⟩ := hrel
      have Hx := Lib.hid hx
      clear hx
      by_cases hlt : k < sizes.length
      · obtain ⟨b, off, rfl, hc⟩ := hs.ints hlt
        have hck := (hc w hφ).2
        by_cases h1 : sizes[k] < 1
        · go_wp2
          go_ret2
          exact SlFPost.nil hφ (HitsF_size _ _ hl hlt (outB_true.2 (.inl h1)))
        · by_cases h2 : 5000000000 < sizes[k]
          · go_wp2
            go_ret2
            exact SlFPost.nil hφ (HitsF_size _ _ hl hlt (outB_true.2 (.inr h2)))
          · go_wp2
            go_round
            case rel => exact ⟨k + 1, by omega, by go_num, by rw [take_snoc _ _ hlt]; intro x hx; rcases List.mem_append.1 hx with h | h; exact Hx.out x h; simp at h; subst h; exact outB_false.2 (by omega)⟩
            case measure => simp [intOf]; omega
      · obtain rfl : k = sizes.length := by omega
        rw [List.take_length] at Hx
        clear hk hlt
        by_cases h1 : take < 0
        · go_wp2
          go_ret2
          exact SlFPost.nil hφ (HitsF_range hl Hx.out (.inl (outB_true.2 (.inl h1))))
        by_cases h2 : 5000 < take
        · go_wp2
          go_ret2
          exact SlFPost.nil hφ (HitsF_range hl Hx.out (.inl (outB_true.2 (.inr h2))))
        by_cases h3 : start < 0
        · go_wp2
          go_ret2
          exact SlFPost.nil hφ (HitsF_range hl Hx.out (.inr (outB_true.2 (.inl h3))))
        go_wp2_with fail
        refine (total_any _ _ _ 5000000000 _ φ hφ hs (by omega) (fun x h => by have := outB_false.1 (Hx.out x h); omega) (by omega) (by omega)).mono ?_
        rintro e w' ⟨rfl, rfl⟩
        by_cases h4 : sumL sizes ≤ start
        · go_wp2
          go_ret2
          exact SlFPost.nil hφ (HitsF_range hl Hx.out (.inr (outB_true.2 (.inr (by omega)))))
        · have hF := Lib.hid (HitsF_ok hl Hx.out (start := start) (take := take) (by rw [outB_true, outB_true]; omega))
          go_wp2_with fail
          refine (rhits_any _ _ _ _ _ _ φ hφ hs hl (fun x h => outB_false.1 (Hx.out x h)) (by omega) (by omega) (by omega) (by omega)).mono ?_
          rintro e w' ⟨a', cap', φ', rfl, hi, hsv⟩
          go_wp2
          go_ret2
          rw [hF.out]
          exact ⟨a', cap', φ', rfl, hi, hsv⟩

theorem sampleHitsMatchSpec_walk (w : World) (φ : Phi) (hφ : Fz φ w) (a : Option Addr) (cap : Nat) (sizes : List Int) (hs : SlV φ a cap sizes) (g : sizes.length * 8 ≤ reachBytes ∧ ∀ y ∈ sizes, IsI64 y) (take : Int) (gt : IsI64 take) (start : Int) (gs : IsI64 start) :
    Calls Try.prog 5 #[.slice a sizes.length cap, .int .i64 take, .int .i64 start] w fun e w' => e = .returned (.bool true) ∧ Below w.heap.size w w' := by
  have hlen : sizes.length ≤ 9223372036854775807 := by have := g.1; unfold reachBytes at this; omega
  clear g
  have hrl : (HitsF sizes take start).1.length ≤ 9223372036854775807 := by
    unfold HitsF
    split
    · simp
    · split
      · simp
      · split
        · simp
        · simp [hitsL, hitsTo_len, hlen]
  go_enter Try.func5, Try.ntmps5
  go_wp2_with fail
  refine (Hits_any a cap sizes take start w φ hφ hs hlen).mono ?_
  rintro e w1 ⟨a1, cap1, φ1, rfl, hi1, hs1⟩
  generalize hR : HitsF sizes take start = R at *
  have hR := Lib.hid hR
  go_wp2_with fail
  refine (RHits_any a cap sizes take start w1 φ1 hi1.fz (hs.mono hi1.le) hlen).mono ?_
  rintro e w2 ⟨a2, cap2, φ2, rfl, hi2, hs2⟩
  rw [hR.out] at hs2 ⊢
  have hi3 := hi1.call hi2
  go_wp2_with fail
  refine (Equal_any a1 cap1 R.1 a2 cap2 R.1 w2 φ2 hi2.fz (hs1.mono hi2.le) hs2 hrl).mono ?_
  rintro e w3 ⟨rfl, hb⟩
  have ht : decide (R.1 = R.1) = true := by simp
  rw [ht]
  go_wp2
  go_ret
  exact ⟨ret_bool (by simp), (hi3.callB hb).bel⟩
end Go.Proofs.Ytmgdeenjdoennaa
