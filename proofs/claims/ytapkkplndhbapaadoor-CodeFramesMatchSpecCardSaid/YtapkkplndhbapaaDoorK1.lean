/- Frames of codes: walks of the checks of titles and nodes on the program's side. Conditions: none beyond what the claim form gives. -/
import Derived.Test.YtapkkplndhbapaaDoorBase
namespace Go.Proofs.YtapkkplndhbapaaDoor
open Go.RowKit
set_option linter.unusedVariables false

theorem outside_any (n lo hi : Int) (w : World) :
    Calls Tryd.prog 58 #[.int .i64 n, .int .i64 lo, .int .i64 hi] w fun e w' => e = .returned (.bool (outB n lo hi)) ∧ w = w' := by
  go_enter Tryd.func58, Tryd.ntmps58
  by_cases h : n < lo
  · go_wp2
    go_ret
    exact ⟨by simp [outB, h], rfl⟩
  · go_wp2
    go_ret
    exact ⟨by simp [outB]; omega, rfl⟩
theorem outside_t (n lo hi : Int) (w : World) (h : outB n lo hi = true) :
    Calls Tryd.prog 58 #[.int .i64 n, .int .i64 lo, .int .i64 hi] w fun e w' => e = .returned (.bool true) ∧ w = w' := by rw [← h]; exact outside_any n lo hi w
theorem outside_f (n lo hi : Int) (w : World) (h : outB n lo hi = false) :
    Calls Tryd.prog 58 #[.int .i64 n, .int .i64 lo, .int .i64 hi] w fun e w' => e = .returned (.bool false) ∧ w = w' := by rw [← h]; exact outside_any n lo hi w

/-- A byte of a string, as a number. -/
def byt (s : ByteArray) (k : Nat) : Int := if h : k < s.size then (s[k].toNat : Int) else 0
theorem byt_eq (s : ByteArray) (k : Nat) (h : k < s.size) : byt s k = (s[k].toNat : Int) := by rw [byt, dif_pos h]
theorem byt_bd (s : ByteArray) (k : Nat) : 0 ≤ byt s k ∧ byt s k < 256 := by
  unfold byt
  split
  · have := UInt8.toNat_lt (s[k]'(by assumption)); omega
  · omega
/-- The form of a title. -/
def titleP (s : ByteArray) : Prop := (∀ k, k < s.size → outB (byt s k) 32 126 = false) ∧ 0 < s.size ∧ byt s 0 ≠ 32 ∧ byt s (s.size - 1) ≠ 32
noncomputable def titleB (s : ByteArray) : Bool := @decide (titleP s) (Classical.propDecidable _)
theorem titleB_true {s : ByteArray} (h : titleP s) : titleB s = true := by unfold titleB; exact @decide_eq_true _ (Classical.propDecidable _) h
theorem titleB_false {s : ByteArray} (h : ¬ titleP s) : titleB s = false := by unfold titleB; exact @decide_eq_false _ (Classical.propDecidable _) h
theorem isEmpty_iff (s : ByteArray) : s.toList.isEmpty = decide (s.size = 0) := by
  rw [ByteArray.toList_eq]
  have h : s.data.toList.length = s.size := rfl
  rw [← h]
  cases s.data.toList <;> simp

set_option maxHeartbeats 400000 in
theorem isTitle_any (s : ByteArray) (w : World) (hs : s.size ≤ 1000000000) :
    Calls Tryd.prog 54 #[.string s] w fun e w' => e = .returned (.bool (titleB s)) ∧ w = w' := by
  go_enter Tryd.func54, Tryd.ntmps54
  go_wp2
  go_loop [3] (fun i => ∃ k : Nat, k ≤ s.size ∧ i = .int .i64 k ∧ Hid (∀ i, i < k → outB (byt s i) 32 126 = false)) (fun i => s.size - (intOf i).toNat)
  case atStart => exact ⟨0, Nat.zero_le _, rfl, Lib.hid (fun i hi => by omega)⟩
  case round =>
    obtain ⟨k, hk, rfl, hok⟩ := hrel
    by_cases hlt : k < s.size
    · have hb := byt_bd s k
      have he := Lib.hid (byt_eq s k hlt)
      have hc : ((s[k]'hlt).toNat : Int) < 256 := by rw [← he.out]; omega
      go_wp2_with fail
      rw [← he.out]
      by_cases h1 : outB (byt s k) 32 126 = true
      · have H1 := Lib.hid h1
        clear h1
        refine (outside_t _ _ _ _ H1.out).mono ?_
        rintro e w' ⟨rfl, rfl⟩
        go_wp2
        go_ret
        exact ⟨ret_bool (titleB_false (fun h => by have := h.1 k hlt; rw [H1.out] at this; cases this)).symm, rfl⟩
      · have H1 := Lib.hid (Bool.not_eq_true _ ▸ h1 : outB (byt s k) 32 126 = false)
        clear h1
        refine (outside_f _ _ _ _ H1.out).mono ?_
        rintro e w' ⟨rfl, rfl⟩
        go_wp2
        go_round
        case rel => exact ⟨k + 1, by omega, by go_num, Lib.hid (fun i hi => by
          by_cases e : i = k
          · subst e; exact H1.out
          · exact hok.out i (by omega))⟩
        case measure => simp [intOf]; omega
    · obtain rfl : k = s.size := by omega
      by_cases hz : s.size = 0
      · have he : s.toList.isEmpty = true := by rw [isEmpty_iff]; simp [hz]
        have HZ := Lib.hid hz
        clear hz
        go_wp2
        go_ret
        exact ⟨ret_bool (titleB_false (fun h => by have := h.2.1; have := HZ.out; omega)).symm, rfl⟩
      · have he : s.toList.isEmpty = false := by rw [isEmpty_iff]; simp [hz]
        have hp : 0 < s.size := by omega
        have hp2 : s.size - 1 < s.size := by omega
        have b0 := Lib.hid (byt_eq s 0 hp)
        have b1 := Lib.hid (byt_eq s (s.size - 1) hp2)
        clear hz
        go_wp2
        · have h0 : ((s[0]'hp).toNat : Int) = 32 := by assumption
          go_ret
          exact ⟨ret_bool (titleB_false (fun h => h.2.2.1 (b0.out.trans h0))).symm, rfl⟩
        · have h0 : ¬ ((s[0]'hp).toNat : Int) = 32 := by assumption
          go_ret
          refine ⟨ret_bool ?_, rfl⟩
          by_cases h1 : byt s (s.size - 1) = 32
          · rw [titleB_false (fun h => h.2.2.2 h1), ← b1.out, h1]; simp
          · rw [titleB_true ⟨hok.out, hp, fun e => h0 (b0.out.symm.trans e), h1⟩, ← b0.out, ← b1.out]
            have h0' : byt s 0 ≠ 32 := fun e => h0 (b0.out.symm.trans e)
            simp [h0', h1]
end Go.Proofs.YtapkkplndhbapaaDoor
