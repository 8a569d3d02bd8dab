import Derived.Test.YtmgdeenjdoennaaW1
namespace Go.Proofs.Ytmgdeenjdoennaa
open Go.RowKit

def HitsF (sizes : List Int) (take start : Int) : List Int × Int :=
  if 5000 < sizes.length then ([], 2)
  else if ∃ x ∈ sizes, outB x 1 5000000000 = true then ([], 1)
  else if outB take 0 5000 = true ∨ outB start 0 (sumL sizes - 1) = true then ([], 1)
  else (hitsL sizes take start, 0)
theorem HitsF_large {sizes : List Int} (take start : Int) (h : 5000 < sizes.length) : HitsF sizes take start = ([], 2) := by rw [HitsF, if_pos h]
theorem HitsF_size {sizes : List Int} (take start : Int) (h : sizes.length ≤ 5000) {k : Nat} (hk : k < sizes.length) (hx : outB sizes[k] 1 5000000000 = true) : HitsF sizes take start = ([], 1) := by
  rw [HitsF, if_neg (by omega), if_pos ⟨_, List.getElem_mem hk, hx⟩]
theorem HitsF_range {sizes : List Int} {take start : Int} (h : sizes.length ≤ 5000) (hx : ∀ x ∈ sizes, outB x 1 5000000000 = false) (hr : outB take 0 5000 = true ∨ outB start 0 (sumL sizes - 1) = true) : HitsF sizes take start = ([], 1) := by
  rw [HitsF, if_neg (by omega), if_neg (by rintro ⟨x, h1, h2⟩; rw [hx x h1] at h2; cases h2), if_pos hr]
theorem HitsF_ok {sizes : List Int} {take start : Int} (h : sizes.length ≤ 5000) (hx : ∀ x ∈ sizes, outB x 1 5000000000 = false) (hr : ¬ (outB take 0 5000 = true ∨ outB start 0 (sumL sizes - 1) = true)) : HitsF sizes take start = (hitsL sizes take start, 0) := by
  rw [HitsF, if_neg (by omega), if_neg (by rintro ⟨x, h1, h2⟩; rw [hx x h1] at h2; cases h2), if_neg hr]

theorem outB_true {n lo hi : Int} : outB n lo hi = true ↔ n < lo ∨ hi < n := by simp [outB]
theorem outB_false {n lo hi : Int} : outB n lo hi = false ↔ lo ≤ n ∧ n ≤ hi := by simp [outB]

def SlFPost (B : Nat) (w0 : World) (φ0 : Phi) (r : List Int × Int) (e : Ending) (w' : World) : Prop :=
  ∃ a cap φ', e = .returned (.tuple #[.slice a r.1.length cap, .int .i64 r.2]) ∧ Inv B w0 φ0 φ' w' ∧ SlV φ' a cap r.1
theorem SlFPost.nil {w : World} {φ : Phi} (hφ : Fz φ w) {r : List Int × Int} {f : Int} (h : r = ([], f)) : SlFPost w.heap.size w φ r (.returned (.tuple #[.slice none 0 0, .int .i64 f])) w := by
  subst h; exact ⟨none, 0, φ, rfl, Inv.start hφ, SlV.empty _⟩

theorem getElem_take_of {α : Type} {l : List α} {k : Nat} (h : ∀ i (hi : i < l.length), i < k → True) : True := trivial

set_option maxHeartbeats 400000 in
theorem Hits_any (a : Option Addr) (cap : Nat) (sizes : List Int) (take start : Int) (w : World) (φ : Phi) (hφ : Fz φ w) (hs : SlV φ a cap sizes) (hm : sizes.length ≤ 9223372036854775807) :
    Calls Try.prog 8 #[.slice a sizes.length cap, .int .i64 take, .int .i64 start] w (SlFPost w.heap.size w φ (HitsF sizes take start)) := by
  by_cases hl : 5000 < sizes.length
  · go_enter Try.func8, Try.ntmps8
    go_wp2
    go_ret2
    exact SlFPost.nil hφ (HitsF_large _ _ hl)
  · have hl : sizes.length ≤ 5000 := by omega
    go_enter Try.func8, Try.ntmps8
    go_wp2
    go_loop [8, 16] (fun s i => ∃ k : Nat, k ≤ sizes.length ∧ i = .int .i64 k ∧ s = .int .i64 (sumL (sizes.take k)) ∧ ∀ x ∈ sizes.take k, outB x 1 5000000000 = false) (fun _ i => sizes.length - (intOf i).toNat)
    case atStart => exact ⟨0, Nat.zero_le _, rfl, rfl, by simp⟩
    case round =>
      obtain ⟨k, hk, rfl, rfl, hx⟩ := hrel
      have hb : 0 ≤ sumL (sizes.take k) ∧ sumL (sizes.take k) ≤ 5000 * 5000000000 := by
        have := sumL_bd 5000000000 (sizes.take k) (fun x h => by have := outB_false.1 (hx x h); omega)
        have hl : (sizes.take k).length ≤ 5000 := Nat.le_trans (List.length_take_le' _ _) hl
        omega
      have Hx := Lib.hid hx
      clear hx
      by_cases hlt : k < sizes.length
      · obtain ⟨b, off, rfl, hc⟩ := hs.ints hlt
        have hck := (hc w hφ).2
        go_wp2_with fail
        refine (outside_any _ _ _ _).mono ?_
        rintro e w' ⟨rfl, rfl⟩
        by_cases ho : outB sizes[k] 1 5000000000 = true
        · go_wp2
          go_ret2
          exact SlFPost.nil hφ (HitsF_size _ _ hl hlt ho)
        · simp only [Bool.not_eq_true] at ho
          have hx := outB_false.1 ho
          go_wp2
          go_round
          case rel => exact ⟨k + 1, by omega, by go_num, by rw [take_snoc _ _ hlt, sumL_snoc], by rw [take_snoc _ _ hlt]; intro x hx; rcases List.mem_append.1 hx with h | h; exact Hx.out x h; simp at h; subst h; exact ho⟩
          case measure => simp [intOf]; omega
      · obtain rfl : k = sizes.length := by omega
        rw [List.take_length] at Hx hb ⊢
        clear hk hlt
        by_cases h1 : outB take 0 5000 = true
        · go_wp2_with fail
          refine (outside_any _ _ _ _).mono ?_
          rintro e w' ⟨rfl, rfl⟩
          go_wp2
          go_ret2
          exact SlFPost.nil hφ (HitsF_range hl Hx.out (.inl h1))
        · simp only [Bool.not_eq_true] at h1
          go_wp2_with fail
          refine (outside_any _ _ _ _).mono ?_
          rintro e w' ⟨rfl, rfl⟩
          go_wp2_with fail
          refine (outside_any _ _ _ _).mono ?_
          rintro e w' ⟨rfl, rfl⟩
          by_cases h2 : outB start 0 (sumL sizes - 1) = true
          · go_wp2
            go_ret2
            exact SlFPost.nil hφ (HitsF_range hl Hx.out (.inr h2))
          · simp only [Bool.not_eq_true] at h2
            have b1 := outB_false.1 h1
            have b2 := outB_false.1 h2
            have hF := Lib.hid (HitsF_ok hl Hx.out (start := start) (take := take) (by simp [h1, h2]))
            go_wp2_with fail
            refine (hits_any _ _ _ _ _ _ φ hφ hs hl (fun x h => outB_false.1 (Hx.out x h)) b1.1 b1.2 b2.1 (by omega)).mono ?_
            rintro e w' ⟨a', cap', φ', rfl, hi, hsv⟩
            go_wp2
            go_ret2
            rw [hF.out]
            exact ⟨a', cap', φ', rfl, hi, hsv⟩
end Go.Proofs.Ytmgdeenjdoennaa
