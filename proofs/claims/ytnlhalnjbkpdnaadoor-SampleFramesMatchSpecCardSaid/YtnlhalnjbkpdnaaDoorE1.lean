/- The walks of IsName and its helpers, on the program's side. Conditions: none beyond what the claim form gives. -/
import Derived.Test.YtnlhalnjbkpdnaaDoorSeen
namespace Go.Proofs.YtnlhalnjbkpdnaaDoor
open Go.RowKit
set_option linter.unusedVariables false
set_option linter.unusedSimpArgs false

def lowB (n : Int) : Bool := decide (97 ≤ n) && decide (n ≤ 122)
def wrdB (n : Int) : Bool := lowB n || (decide (48 ≤ n) && decide (n ≤ 57)) || decide (n = 95)
def byt (s : ByteArray) (k : Nat) : Int := if h : k < s.size then (s[k].toNat : Int) else 0
theorem byt_eq (s : ByteArray) (k : Nat) (h : k < s.size) : byt s k = (s[k].toNat : Int) := by rw [byt, dif_pos h]
theorem byt_bd (s : ByteArray) (k : Nat) : 0 ≤ byt s k ∧ byt s k < 256 := by
  unfold byt
  split
  · have := UInt8.toNat_lt (s[k]'(by assumption)); omega
  · omega
theorem isEmpty_iff (s : ByteArray) : s.toList.isEmpty = decide (s.size = 0) := by
  rw [ByteArray.toList_eq]
  have h : s.data.toList.length = s.size := rfl
  rw [← h]
  cases s.data.toList <;> simp
/-- The words that are no names. -/
def resv (s : ByteArray) : Bool := (s.toList == [97, 110, 100]) || (s.toList == [111, 114]) || (s.toList == [110, 111, 116]) || (s.toList == [105, 110]) || (s.toList == [104, 97, 115]) || (s.toList == [109, 111, 100]) || (s.toList == [116, 114, 117, 101]) || (s.toList == [102, 97, 108, 115, 101])
/-- The form of a name. -/
def nameP (s : ByteArray) : Prop := 0 < s.size ∧ s.size ≤ 16 ∧ lowB (byt s 0) = true ∧ resv s = false ∧ ∀ k, k < s.size → wrdB (byt s k) = true
noncomputable def nameB (s : ByteArray) : Bool := @decide (nameP s) (Classical.propDecidable _)
theorem nameB_true {s : ByteArray} (h : nameP s) : nameB s = true := by unfold nameB; exact @decide_eq_true _ (Classical.propDecidable _) h
theorem nameB_false {s : ByteArray} (h : ¬ nameP s) : nameB s = false := by unfold nameB; exact @decide_eq_false _ (Classical.propDecidable _) h
theorem isLower_any (n : Int) (w : World) (h0 : 0 ≤ n) (h1 : n < 256) {b : Bool} (h : lowB n = b) :
    Calls Tryd.prog 28 #[.int .u8 n] w fun e w' => e = .returned (.bool b) ∧ w = w' := by
  subst h
  go_enter Tryd.func28, Tryd.ntmps28
  by_cases h : 97 ≤ n
  · go_wp2
    go_ret
    exact ⟨ret_bool (by unfold lowB; rw [Bool.eq_iff_iff]; simp; omega), rfl⟩
  · go_wp2
    go_ret
    exact ⟨ret_bool (by unfold lowB; rw [Bool.eq_iff_iff]; simp; omega), rfl⟩
theorem isWordByte_any (n : Int) (w : World) (h0 : 0 ≤ n) (h1 : n < 256) {b : Bool} (h : wrdB n = b) :
    Calls Tryd.prog 30 #[.int .u8 n] w fun e w' => e = .returned (.bool b) ∧ w = w' := by
  subst h
  go_enter Tryd.func30, Tryd.ntmps30
  go_wp2
  all_goals
    go_ret
    exact ⟨ret_bool (by unfold wrdB lowB; rw [Bool.eq_iff_iff]; simp; omega), rfl⟩
theorem isReserved_any (s : ByteArray) (w : World) {b : Bool} (h : resv s = b) :
    Calls Tryd.prog 29 #[.string s] w fun e w' => e = .returned (.bool b) ∧ w = w' := by
  subst h
  go_enter Tryd.func29, Tryd.ntmps29
  by_cases h0 : (s.toList == [97, 110, 100]) = true
  · go_wp2
    go_ret
    exact ⟨ret_bool (by simp only [resv, h0]; rfl), rfl⟩
  replace h0 := Bool.not_eq_true _ ▸ h0
  by_cases h1 : (s.toList == [111, 114]) = true
  · go_wp2
    go_ret
    exact ⟨ret_bool (by simp only [resv, h0, h1]; rfl), rfl⟩
  replace h1 := Bool.not_eq_true _ ▸ h1
  by_cases h2 : (s.toList == [110, 111, 116]) = true
  · go_wp2
    go_ret
    exact ⟨ret_bool (by simp only [resv, h0, h1, h2]; rfl), rfl⟩
  replace h2 := Bool.not_eq_true _ ▸ h2
  by_cases h3 : (s.toList == [105, 110]) = true
  · go_wp2
    go_ret
    exact ⟨ret_bool (by simp only [resv, h0, h1, h2, h3]; rfl), rfl⟩
  replace h3 := Bool.not_eq_true _ ▸ h3
  by_cases h4 : (s.toList == [104, 97, 115]) = true
  · go_wp2
    go_ret
    exact ⟨ret_bool (by simp only [resv, h0, h1, h2, h3, h4]; rfl), rfl⟩
  replace h4 := Bool.not_eq_true _ ▸ h4
  by_cases h5 : (s.toList == [109, 111, 100]) = true
  · go_wp2
    go_ret
    exact ⟨ret_bool (by simp only [resv, h0, h1, h2, h3, h4, h5]; rfl), rfl⟩
  replace h5 := Bool.not_eq_true _ ▸ h5
  by_cases h6 : (s.toList == [116, 114, 117, 101]) = true
  · go_wp2
    go_ret
    exact ⟨ret_bool (by simp only [resv, h0, h1, h2, h3, h4, h5, h6]; rfl), rfl⟩
  replace h6 := Bool.not_eq_true _ ▸ h6
  by_cases h7 : (s.toList == [102, 97, 108, 115, 101]) = true
  · go_wp2
    go_ret
    exact ⟨ret_bool (by simp only [resv, h0, h1, h2, h3, h4, h5, h6, h7]; rfl), rfl⟩
  replace h7 := Bool.not_eq_true _ ▸ h7
  go_wp2
  go_ret
  exact ⟨ret_bool (by simp only [resv, h0, h1, h2, h3, h4, h5, h6, h7]; rfl), rfl⟩
set_option maxRecDepth 100000 in
set_option maxHeartbeats 1000000 in
theorem IsName_any (s : ByteArray) (w : World) (hs : s.size ≤ reachBytes) {b : Bool} (h : nameB s = b) :
    Calls Tryd.prog 16 #[.string s] w fun e w' => e = .returned (.bool b) ∧ w = w' := by
  subst h
  by_cases hz : s.size = 0
  · have he : s.toList.isEmpty = true := by rw [isEmpty_iff]; simp [hz]
    have he2 : s.toList = [] := List.isEmpty_iff.1 he
    have HZ := Lib.hid hz
    clear hz
    go_enter Tryd.func16, Tryd.ntmps16
    go_wp2
    go_ret
    exact ⟨ret_bool (nameB_false (fun h => by have := h.1; have := HZ.out; omega)).symm, rfl⟩
  have he : s.toList.isEmpty = false := by rw [isEmpty_iff]; simp [hz]
  have hp : 0 < s.size := by omega
  by_cases h16 : 16 < s.size
  · unfold reachBytes at hs
    go_enter Tryd.func16, Tryd.ntmps16
    go_wp2
    go_ret
    exact ⟨ret_bool (nameB_false (fun h => by have := h.2.1; omega)).symm, rfl⟩
  have hc := byt_bd s 0
  have b0 := Lib.hid (byt_eq s 0 hp)
  have hc0 : ((s[0]'hp).toNat : Int) < 256 := by rw [← b0.out]; omega
  have hc1 : 0 ≤ ((s[0]'hp).toNat : Int) := by omega
  obtain ⟨l0, hl0⟩ : ∃ b, Hid (lowB ((s[0]'hp).toNat : Int) = b) := ⟨_, Lib.hid rfl⟩
  obtain ⟨r0, hr0⟩ : ∃ b, Hid (resv s = b) := ⟨_, Lib.hid rfl⟩
  clear hs hz
  go_enter Tryd.func16, Tryd.ntmps16
  cases l0
  · go_wp2_with (go_at_call 28; refine (isLower_any _ _ hc1 hc0 hl0.out).mono ?_; rintro e w' ⟨rfl, rfl⟩)
    go_ret
    exact ⟨ret_bool (nameB_false (fun h => by have := h.2.2.1; rw [b0.out, hl0.out] at this; cases this)).symm, rfl⟩
  cases r0
  case true =>
    go_wp2_with (first | (go_at_call 28; refine (isLower_any _ _ hc1 hc0 hl0.out).mono ?_; rintro e w' ⟨rfl, rfl⟩) | (go_at_call 29; refine (isReserved_any _ _ hr0.out).mono ?_; rintro e w' ⟨rfl, rfl⟩))
    go_ret
    exact ⟨ret_bool (nameB_false (fun h => by have := h.2.2.2.1; rw [hr0.out] at this; cases this)).symm, rfl⟩
  go_wp2_with (first | (go_at_call 28; refine (isLower_any _ _ hc1 hc0 hl0.out).mono ?_; rintro e w' ⟨rfl, rfl⟩) | (go_at_call 29; refine (isReserved_any _ _ hr0.out).mono ?_; rintro e w' ⟨rfl, rfl⟩))
  go_loop [3] (fun i => ∃ k : Nat, k ≤ s.size ∧ i = .int .i64 k ∧ Hid (∀ i, i < k → wrdB (byt s i) = true)) (fun i => s.size - (intOf i).toNat)
  case atStart => exact ⟨0, Nat.zero_le _, rfl, Lib.hid (fun i hi => by omega)⟩
  case round =>
    obtain ⟨k, hk, rfl, hok⟩ := hrel
    by_cases hlt : k < s.size
    · have hb := byt_bd s k
      have hek := Lib.hid (byt_eq s k hlt)
      have hd0 : ((s[k]'hlt).toNat : Int) < 256 := by rw [← hek.out]; omega
      have hd1 : 0 ≤ ((s[k]'hlt).toNat : Int) := by omega
      obtain ⟨o, ho⟩ : ∃ o, Hid (wrdB ((s[k]'hlt).toNat : Int) = o) := ⟨_, Lib.hid rfl⟩
      cases o
      · go_wp2_with (go_at_call 30; refine (isWordByte_any _ _ hd1 hd0 ho.out).mono ?_; rintro e w' ⟨rfl, rfl⟩)
        go_ret
        exact ⟨ret_bool (nameB_false (fun h => by have := h.2.2.2.2 k hlt; rw [hek.out, ho.out] at this; cases this)).symm, rfl⟩
      · go_wp2_with (go_at_call 30; refine (isWordByte_any _ _ hd1 hd0 ho.out).mono ?_; rintro e w' ⟨rfl, rfl⟩)
        go_round
        case rel => exact ⟨k + 1, by omega, by go_num, Lib.hid (fun i hi => by
          by_cases e : i = k
          · subst e; rw [hek.out]; exact ho.out
          · exact hok.out i (by omega))⟩
        case measure => (simp [intOf] <;> omega)
    · obtain rfl : k = s.size := by omega
      go_wp2
      go_ret
      exact ⟨ret_bool (nameB_true ⟨hp, by omega, by rw [b0.out]; exact hl0.out, hr0.out, hok.out⟩).symm, rfl⟩
end Go.Proofs.YtnlhalnjbkpdnaaDoor
