/- The walks of IsName and its helpers, on the program's side. The walks of fieldFault, setFault, fieldsFault. The walks of fieldsFault and CheckPlan, on the program's side. The walk of CheckPlan, on the program's side. Bits. slices.Index exactly; boxes of edits. The walk of rulesOf. The walks of has, fails, valid, passes, recordFault, with. The walk of with; the records that agree outside of the free fields. Conditions: none beyond what the claim form gives. -/
import Derived.Test.YtkfmadeeobalaaaDoorLB
namespace Go.Proofs.YtkfmadeeobalaaaDoor
open Go.RowKit
set_option linter.unusedVariables false

def lowB (n : Int) : Bool := decide (97 ≤ n) && decide (n ≤ 122)
def wrdB (n : Int) : Bool := lowB n || (decide (48 ≤ n) && decide (n ≤ 57)) || decide (n = 95)
def byt (s : ByteArray) (k : Nat) : Int := if h : k < s.size then (s[k].toNat : Int) else 0
theorem byt_eq (s : ByteArray) (k : Nat) (h : k < s.size) : byt s k = (s[k].toNat : Int) := by rw [byt, dif_pos h]
theorem byt_bd (s : ByteArray) (k : Nat) : 0 ≤ byt s k ∧ byt s k < 256 := by
  unfold byt
  split
  · have := UInt8.toNat_lt (s[k]'(by assumption)); omega
  · omega
theorem isEmpty_iff (s : ByteArray) : s.toList.isEmpty = decide (s.size = 0) := by
  rw [ByteArray.toList_eq]
  have h : s.data.toList.length = s.size := rfl
  rw [← h]
  cases s.data.toList <;> simp
/-- The words that are no names. -/
def resv (s : ByteArray) : Bool := (s.toList == [97, 110, 100]) || (s.toList == [111, 114]) || (s.toList == [110, 111, 116]) || (s.toList == [105, 110]) || (s.toList == [104, 97, 115]) || (s.toList == [109, 111, 100]) || (s.toList == [116, 114, 117, 101]) || (s.toList == [102, 97, 108, 115, 101])
/-- The form of a name. -/
def nameP (s : ByteArray) : Prop := 0 < s.size ∧ s.size ≤ 16 ∧ lowB (byt s 0) = true ∧ resv s = false ∧ ∀ k, k < s.size → wrdB (byt s k) = true
noncomputable def nameB (s : ByteArray) : Bool := @decide (nameP s) (Classical.propDecidable _)
theorem nameB_true {s : ByteArray} (h : nameP s) : nameB s = true := by unfold nameB; exact @decide_eq_true _ (Classical.propDecidable _) h
theorem nameB_false {s : ByteArray} (h : ¬ nameP s) : nameB s = false := by unfold nameB; exact @decide_eq_false _ (Classical.propDecidable _) h
theorem outside_b (n lo hi : Int) (w : World) {b : Bool} (h : outB n lo hi = b) :
    Calls Tryd.prog 35 #[.int .i64 n, .int .i64 lo, .int .i64 hi] w fun e w' => e = .returned (.bool b) ∧ w = w' := by
  subst h
  go_enter Tryd.func35, Tryd.ntmps35
  by_cases h : n < lo
  · go_wp2
    go_ret
    exact ⟨by simp [outB, h], rfl⟩
  · go_wp2
    go_ret
    exact ⟨by simp [outB]; omega, rfl⟩
theorem isLower_any (n : Int) (w : World) (h0 : 0 ≤ n) (h1 : n < 256) {b : Bool} (h : lowB n = b) :
    Calls Tryd.prog 118 #[.int .u8 n] w fun e w' => e = .returned (.bool b) ∧ w = w' := by
  subst h
  go_enter Tryd.func118, Tryd.ntmps118
  by_cases h : 97 ≤ n
  · go_wp2
    go_ret
    exact ⟨ret_bool (by unfold lowB; rw [Bool.eq_iff_iff]; simp; omega), rfl⟩
  · go_wp2
    go_ret
    exact ⟨ret_bool (by unfold lowB; rw [Bool.eq_iff_iff]; simp; omega), rfl⟩
theorem isWordByte_any (n : Int) (w : World) (h0 : 0 ≤ n) (h1 : n < 256) {b : Bool} (h : wrdB n = b) :
    Calls Tryd.prog 120 #[.int .u8 n] w fun e w' => e = .returned (.bool b) ∧ w = w' := by
  subst h
  go_enter Tryd.func120, Tryd.ntmps120
  go_wp2
  all_goals
    go_ret
    exact ⟨ret_bool (by unfold wrdB lowB; rw [Bool.eq_iff_iff]; simp; omega), rfl⟩
theorem isReserved_any (s : ByteArray) (w : World) {b : Bool} (h : resv s = b) :
    Calls Tryd.prog 119 #[.string s] w fun e w' => e = .returned (.bool b) ∧ w = w' := by
  subst h
  go_enter Tryd.func119, Tryd.ntmps119
  by_cases h0 : (s.toList == [97, 110, 100]) = true
  · go_wp2
    go_ret
    exact ⟨ret_bool (by simp only [resv, h0]; rfl), rfl⟩
  replace h0 := Bool.not_eq_true _ ▸ h0
  by_cases h1 : (s.toList == [111, 114]) = true
  · go_wp2
    go_ret
    exact ⟨ret_bool (by simp only [resv, h0, h1]; rfl), rfl⟩
  replace h1 := Bool.not_eq_true _ ▸ h1
  by_cases h2 : (s.toList == [110, 111, 116]) = true
  · go_wp2
    go_ret
    exact ⟨ret_bool (by simp only [resv, h0, h1, h2]; rfl), rfl⟩
  replace h2 := Bool.not_eq_true _ ▸ h2
  by_cases h3 : (s.toList == [105, 110]) = true
  · go_wp2
    go_ret
    exact ⟨ret_bool (by simp only [resv, h0, h1, h2, h3]; rfl), rfl⟩
  replace h3 := Bool.not_eq_true _ ▸ h3
  by_cases h4 : (s.toList == [104, 97, 115]) = true
  · go_wp2
    go_ret
    exact ⟨ret_bool (by simp only [resv, h0, h1, h2, h3, h4]; rfl), rfl⟩
  replace h4 := Bool.not_eq_true _ ▸ h4
  by_cases h5 : (s.toList == [109, 111, 100]) = true
  · go_wp2
    go_ret
    exact ⟨ret_bool (by simp only [resv, h0, h1, h2, h3, h4, h5]; rfl), rfl⟩
  replace h5 := Bool.not_eq_true _ ▸ h5
  by_cases h6 : (s.toList == [116, 114, 117, 101]) = true
  · go_wp2
    go_ret
    exact ⟨ret_bool (by simp only [resv, h0, h1, h2, h3, h4, h5, h6]; rfl), rfl⟩
  replace h6 := Bool.not_eq_true _ ▸ h6
  by_cases h7 : (s.toList == [102, 97, 108, 115, 101]) = true
  · go_wp2
    go_ret
    exact ⟨ret_bool (by simp only [resv, h0, h1, h2, h3, h4, h5, h6, h7]; rfl), rfl⟩
  replace h7 := Bool.not_eq_true _ ▸ h7
  go_wp2
  go_ret
  exact ⟨ret_bool (by simp only [resv, h0, h1, h2, h3, h4, h5, h6, h7]; rfl), rfl⟩
set_option maxRecDepth 100000 in
set_option maxHeartbeats 1000000 in
theorem IsName_any (s : ByteArray) (w : World) (hs : s.size ≤ reachBytes) {b : Bool} (h : nameB s = b) :
    Calls Tryd.prog 87 #[.string s] w fun e w' => e = .returned (.bool b) ∧ w = w' := by
  subst h
  by_cases hz : s.size = 0
  · have he : s.toList.isEmpty = true := by rw [isEmpty_iff]; simp [hz]
    have he2 : s.toList = [] := List.isEmpty_iff.1 he
    have HZ := Lib.hid hz
    clear hz
    go_enter Tryd.func87, Tryd.ntmps87
    go_wp2
    go_ret
    exact ⟨ret_bool (nameB_false (fun h => by have := h.1; have := HZ.out; omega)).symm, rfl⟩
  have he : s.toList.isEmpty = false := by rw [isEmpty_iff]; simp [hz]
  have hp : 0 < s.size := by omega
  by_cases h16 : 16 < s.size
  · unfold reachBytes at hs
    go_enter Tryd.func87, Tryd.ntmps87
    go_wp2
    go_ret
    exact ⟨ret_bool (nameB_false (fun h => by have := h.2.1; omega)).symm, rfl⟩
  have hc := byt_bd s 0
  have b0 := Lib.hid (byt_eq s 0 hp)
  have hc0 : ((s[0]'hp).toNat : Int) < 256 := by rw [← b0.out]; omega
  have hc1 : 0 ≤ ((s[0]'hp).toNat : Int) := by omega
  obtain ⟨l0, hl0⟩ : ∃ b, Hid (lowB ((s[0]'hp).toNat : Int) = b) := ⟨_, Lib.hid rfl⟩
  obtain ⟨r0, hr0⟩ : ∃ b, Hid (resv s = b) := ⟨_, Lib.hid rfl⟩
  clear hs hz
  go_enter Tryd.func87, Tryd.ntmps87
  cases l0
  · go_wp2_with (go_at_call 118; refine (isLower_any _ _ hc1 hc0 hl0.out).mono ?_; rintro e w' ⟨rfl, rfl⟩)
    go_ret
    exact ⟨ret_bool (nameB_false (fun h => by have := h.2.2.1; rw [b0.out, hl0.out] at this; cases this)).symm, rfl⟩
  cases r0
  case true =>
    go_wp2_with (first | (go_at_call 118; refine (isLower_any _ _ hc1 hc0 hl0.out).mono ?_; rintro e w' ⟨rfl, rfl⟩) | (go_at_call 119; refine (isReserved_any _ _ hr0.out).mono ?_; rintro e w' ⟨rfl, rfl⟩))
    go_ret
    exact ⟨ret_bool (nameB_false (fun h => by have := h.2.2.2.1; rw [hr0.out] at this; cases this)).symm, rfl⟩
  go_wp2_with (first | (go_at_call 118; refine (isLower_any _ _ hc1 hc0 hl0.out).mono ?_; rintro e w' ⟨rfl, rfl⟩) | (go_at_call 119; refine (isReserved_any _ _ hr0.out).mono ?_; rintro e w' ⟨rfl, rfl⟩))
  go_loop [3] (fun i => ∃ k : Nat, k ≤ s.size ∧ i = .int .i64 k ∧ Hid (∀ i, i < k → wrdB (byt s i) = true)) (fun i => s.size - (intOf i).toNat)
  case atStart => exact ⟨0, Nat.zero_le _, rfl, Lib.hid (fun i hi => by omega)⟩
  case round =>
    obtain ⟨k, hk, rfl, hok⟩ := hrel
    by_cases hlt : k < s.size
    · have hb := byt_bd s k
      have hek := Lib.hid (byt_eq s k hlt)
      have hd0 : ((s[k]'hlt).toNat : Int) < 256 := by rw [← hek.out]; omega
      have hd1 : 0 ≤ ((s[k]'hlt).toNat : Int) := by omega
      obtain ⟨o, ho⟩ : ∃ o, Hid (wrdB ((s[k]'hlt).toNat : Int) = o) := ⟨_, Lib.hid rfl⟩
      cases o
      · go_wp2_with (go_at_call 120; refine (isWordByte_any _ _ hd1 hd0 ho.out).mono ?_; rintro e w' ⟨rfl, rfl⟩)
        go_ret
        exact ⟨ret_bool (nameB_false (fun h => by have := h.2.2.2.2 k hlt; rw [hek.out, ho.out] at this; cases this)).symm, rfl⟩
      · go_wp2_with (go_at_call 120; refine (isWordByte_any _ _ hd1 hd0 ho.out).mono ?_; rintro e w' ⟨rfl, rfl⟩)
        go_round
        case rel => exact ⟨k + 1, by omega, by go_num, Lib.hid (fun i hi => by
          by_cases e : i = k
          · subst e; rw [hek.out]; exact ho.out
          · exact hok.out i (by omega))⟩
        case measure => (simp [intOf] <;> omega)
    · obtain rfl : k = s.size := by omega
      go_wp2
      go_ret
      exact ⟨ret_bool (nameB_true ⟨hp, by omega, by rw [b0.out]; exact hl0.out, hr0.out, hok.out⟩).symm, rfl⟩
end Go.Proofs.YtkfmadeeobalaaaDoor

namespace Go.Proofs.YtkfmadeeobalaaaDoor
open Go.RowKit
set_option linter.unusedVariables false

abbrev Fld := ByteArray × List Int × Int
abbrev fld0 : Fld := (ByteArray.empty, [], 0)
theorem SlV.fldD {φ : Phi} {a : Option Addr} {cap : Nat} {xs : List Fld} (h : SlV φ a cap xs) {k n : Nat} (hn : Hid (xs.length = n)) (hk : k < n) :
    ∃ b off, a = some ⟨b, off, none⟩ ∧ ∀ k, k < n → ∃ ac cc, SlV φ ac cc (xs.getD k fld0).2.1 ∧ ∀ w, Fz φ w → b < w.heap.size ∧ w.cell? ⟨b, off + k * 3, none⟩ = some (.string (xs.getD k fld0).1) ∧ w.cell? ⟨b, off + k * 3 + 1, none⟩ = some (.slice ac (xs.getD k fld0).2.1.length cc) ∧ w.cell? ⟨b, off + k * 3 + 2, none⟩ = some (.int .i64 (xs.getD k fld0).2.2) := by
  obtain ⟨b, off, ha, hc⟩ := h.cellsD fld0 hn hk
  refine ⟨b, off, ha, fun k hk => ?_⟩
  obtain ⟨cs, ⟨c, d, rfl, h1, c2, d2, rfl, ⟨ac, cc, rfl, hs⟩, h3⟩, hj⟩ := hc k hk
  cases h1; cases h3
  refine ⟨ac, cc, hs, fun w hw => ?_⟩
  have j0 := hj 0 (by simp)
  have j1 := hj 1 (by simp)
  have j2 := hj 2 (by simp)
  simp [Rep.size] at j0 j1 j2
  exact ⟨hw.lt j0, hw.cell j0, hw.cell j1, hw.cell j2⟩
def codeBad (cs : List Int) (k : Nat) : Int := if outB (cs.getD k 0) 1 999 = true then 1 else if 0 < k ∧ cs.getD k 0 ≤ cs.getD (k - 1) 0 then 7 else 0
def fieldF (cs : List Int) (wt : Int) : Int := if cs.length = 0 then 9 else if 20 < cs.length then 2 else if scan (codeBad cs) cs.length ≠ 0 then scan (codeBad cs) cs.length else if outB wt 1 1000 = true then 1 else 0
theorem fieldF_at {cs : List Int} {wt : Int} {n k : Nat} (hn : Hid (cs.length = n)) (h0 : 0 < n) (hl : n ≤ 20) (hk : k < n) (h : Hid (∀ i, i < k → codeBad cs i = 0)) {c : Int} (hc : codeBad cs k = c) (hc0 : c ≠ 0) : fieldF cs wt = c := by
  have hs : scan (codeBad cs) n = c := by rw [scan_stop h.out hk (by rw [hc]; exact hc0), hc]
  rw [fieldF, hn.out, if_neg (by omega), if_neg (by omega), hs, if_pos hc0]
theorem fieldF_ok {cs : List Int} {wt : Int} {n : Nat} (hn : Hid (cs.length = n)) (h0 : 0 < n) (hl : n ≤ 20) (h : Hid (∀ i, i < n → codeBad cs i = 0)) : fieldF cs wt = if outB wt 1 1000 = true then 1 else 0 := by
  rw [fieldF, hn.out, if_neg (by omega), if_neg (by omega), scan_zero _ _ h.out, if_neg (by simp)]
set_option maxHeartbeats 1000000 in
theorem fieldFault_any (nm : ByteArray) (n : Nat) (a : Option Addr) (cap : Nat) (cs : List Int) (wt : Int) (w : World) (φ : Phi) (hφ : Fz φ w) (s : SlV φ a cap cs) (hn : Hid (cs.length = n)) (hm : n ≤ 9223372036854775807) :
    Calls Tryd.prog 117 #[.agg #[.string nm, .slice a n cap, .int .i64 wt]] w (IntB (fieldF cs wt) w) := by
  have hbel : Below w.heap.size w (w.alloc (.cells #[.string nm, .slice a n cap, .int .i64 wt] 92)) := (Below.refl _ _).alloc (Nat.le_refl _) _
  by_cases z : n = 0
  · have Z := Lib.hid z
    have zb : ((n : Int) == 0) = true := by simp [z]
    clear z
    go_enter Tryd.func117, Tryd.ntmps117
    go_wp2
    go_ret
    exact ⟨ret_int (by rw [fieldF, hn.out, if_pos Z.out]), hbel⟩
  have zb : ((n : Int) == 0) = false := by simp; omega
  by_cases hl : 20 < n
  · go_enter Tryd.func117, Tryd.ntmps117
    go_wp2
    go_ret
    exact ⟨ret_int (by rw [fieldF, hn.out, if_neg z, if_pos hl]), hbel⟩
  have h0 : 0 < n := by omega
  have z := Lib.hid z
  have HB := Lib.hid hbel
  have e1 : (w.alloc (.cells #[.string nm, .slice a n cap, .int .i64 wt] 92)).cell? ⟨w.heap.size, 1, none⟩ = some (.slice a n cap) := box_at 1
  have e2 : (w.alloc (.cells #[.string nm, .slice a n cap, .int .i64 wt] 92)).cell? ⟨w.heap.size, 2, none⟩ = some (.int .i64 wt) := box_at 2
  go_enter Tryd.func117, Tryd.ntmps117
  go_wp2
  clear zb hbel
  have hF := Lib.hid (hφ.below HB.out)
  generalize w.alloc (.cells #[.string nm, .slice a n cap, .int .i64 wt] 92) = wx at *
  generalize hbx : w.heap.size = bx at *
  replace hbx := Lib.hid hbx
  go_loop [16] (fun i => ∃ k : Nat, k ≤ n ∧ i = .int .i64 k ∧ Hid (∀ i, i < k → codeBad cs i = 0)) (fun i => n - (intOf i).toNat)
  case atStart => exact ⟨0, Nat.zero_le _, rfl, none_yet _⟩
  case round =>
    obtain ⟨k, hk, rfl, hok⟩ := hrel
    by_cases hlt : k < n
    · obtain ⟨b, off, rfl, f⟩ := s.intsD hn hlt
      obtain ⟨hb, c1⟩ := f k hlt wx hF.out
      have HP := Lib.hid (fun h : 0 < k => (f (k - 1) (by omega) wx hF.out).2)
      have hbad : Hid (codeBad cs k = _) := Lib.hid (codeBad.eq_1 cs k)
      clear f
      generalize cs.getD k 0 = m at *
      generalize cs.getD (k - 1) 0 = p at *
      obtain ⟨o1, ho1⟩ : ∃ o, Hid (outB m 1 999 = o) := ⟨_, Lib.hid rfl⟩
      cases o1
      case true =>
        go_wp2_with (go_at_call 35; refine (outside_b _ _ _ _ ho1.out).mono ?_; rintro e w' ⟨rfl, rfl⟩)
        go_ret
        exact ⟨ret_int (fieldF_at hn h0 (by omega) hlt hok (by rw [hbad.out, if_pos ho1.out]) (by decide)).symm, by rw [hbx.out]; exact HB.out⟩
      by_cases h3 : 0 < k
      · have hpp := HP.out h3
        have hix : 0 ≤ (k : Int) - 1 := by omega
        have hix2 : (k : Int) - 1 < n := by omega
        have hto : ((k : Int) - 1).toNat = k - 1 := by omega
        go_wp2_with (go_at_call 35; refine (outside_b _ _ _ _ ho1.out).mono ?_; rintro e w' ⟨rfl, rfl⟩)
        all_goals clear hto
        all_goals first
          | (go_ret; exact ⟨ret_int (fieldF_at hn h0 (by omega) hlt hok (by rw [hbad.out, if_neg (by rw [ho1.out]; simp), if_pos (by omega)]) (by decide)).symm, by rw [hbx.out]; exact HB.out⟩)
          | (go_round
             case rel => exact ⟨k + 1, by omega, by go_num, next_ok hok (by rw [hbad.out, if_neg (by rw [ho1.out]; simp), if_neg (by omega)])⟩
             case measure => simp [intOf]; omega)
      · have h3i : decide ((0 : Int) < k) = false := decide_eq_false (by omega)
        go_wp2_with (go_at_call 35; refine (outside_b _ _ _ _ ho1.out).mono ?_; rintro e w' ⟨rfl, rfl⟩)
        go_round
        case rel => exact ⟨k + 1, by omega, by go_num, next_ok hok (by rw [hbad.out, if_neg (by rw [ho1.out]; simp), if_neg (by omega)])⟩
        case measure => (simp [intOf] <;> omega)
    · obtain rfl : k = n := by omega
      obtain ⟨o1, ho1⟩ : ∃ o, Hid (outB wt 1 1000 = o) := ⟨_, Lib.hid rfl⟩
      have e := Lib.hid (fieldF_ok (wt := wt) hn h0 (by omega) hok)
      cases o1
      all_goals
        go_wp2_with (go_at_call 35; refine (outside_b _ _ _ _ ho1.out).mono ?_; rintro e w' ⟨rfl, rfl⟩)
        go_ret
        exact ⟨ret_int (by rw [e.out, ho1.out]; rfl), by rw [hbx.out]; exact HB.out⟩

def setBad (set codes : List Int) (k : Nat) : Int := if decide (set.getD k 0 ∈ codes) = false then 1 else if 0 < k ∧ set.getD k 0 ≤ set.getD (k - 1) 0 then 7 else 0
def setF (set codes : List Int) : Int := if set.length = 0 then 9 else scan (setBad set codes) set.length
theorem setF_at {set codes : List Int} {n k : Nat} (hn : Hid (set.length = n)) (h0 : 0 < n) (hk : k < n) (h : Hid (∀ i, i < k → setBad set codes i = 0)) {c : Int} (hc : setBad set codes k = c) (hc0 : c ≠ 0) : setF set codes = c := by
  rw [setF, hn.out, if_neg (by omega), scan_stop h.out hk (by rw [hc]; exact hc0), hc]
theorem setF_ok {set codes : List Int} {n : Nat} (hn : Hid (set.length = n)) (h0 : 0 < n) (h : Hid (∀ i, i < n → setBad set codes i = 0)) : setF set codes = 0 := by
  rw [setF, hn.out, if_neg (by omega), scan_zero _ _ h.out]
theorem Contains_b (n : Nat) (a : Option Addr) (cap : Nat) (xs : List Int) (x : Int) (w : World) (φ : Phi) (hφ : Fz φ w) (s : SlV φ a cap xs) (hn : Hid (xs.length = n)) (hm : n ≤ 9223372036854775807) {b : Bool} (h : decide (x ∈ xs) = b) :
    Calls Tryd.prog 81 #[.slice a n cap, .int .i64 x] w fun e w' => e = .returned (.bool b) ∧ w = w' := by
  have := Contains_any n a cap xs x w φ hφ s hn hm; rwa [h] at this
set_option maxHeartbeats 1000000 in
theorem setFault_any (n : Nat) (a : Option Addr) (cap : Nat) (set : List Int) (n2 : Nat) (a2 : Option Addr) (cap2 : Nat) (codes : List Int) (w : World) (φ : Phi) (hφ : Fz φ w) (s : SlV φ a cap set) (hn : Hid (set.length = n)) (hm : n ≤ 9223372036854775807) (s2 : SlV φ a2 cap2 codes) (hn2 : Hid (codes.length = n2)) (hm2 : n2 ≤ 9223372036854775807) :
    Calls Tryd.prog 88 #[.slice a n cap, .slice a2 n2 cap2] w (fun e w' => e = .returned (.int .i64 (setF set codes)) ∧ w = w') := by
  by_cases z : n = 0
  · have Z := Lib.hid z
    have zb : ((n : Int) == 0) = true := by simp [z]
    clear z
    go_enter Tryd.func88, Tryd.ntmps88
    go_wp2
    go_ret
    exact ⟨ret_int (by rw [setF, hn.out, if_pos Z.out]), rfl⟩
  have zb : ((n : Int) == 0) = false := by simp; omega
  have h0 : 0 < n := by omega
  have z := Lib.hid z
  go_enter Tryd.func88, Tryd.ntmps88
  go_wp2
  clear zb
  go_loop [12] (fun i => ∃ k : Nat, k ≤ n ∧ i = .int .i64 k ∧ Hid (∀ i, i < k → setBad set codes i = 0)) (fun i => n - (intOf i).toNat)
  case atStart => exact ⟨0, Nat.zero_le _, rfl, none_yet _⟩
  case round =>
    obtain ⟨k, hk, rfl, hok⟩ := hrel
    by_cases hlt : k < n
    · obtain ⟨b, off, rfl, f⟩ := s.intsD hn hlt
      obtain ⟨hb, c1⟩ := f k hlt w hφ
      have HP := Lib.hid (fun h : 0 < k => (f (k - 1) (by omega) w hφ).2)
      have hbad : Hid (setBad set codes k = _) := Lib.hid (setBad.eq_1 set codes k)
      clear f
      generalize set.getD k 0 = m at *
      generalize set.getD (k - 1) 0 = p at *
      obtain ⟨o1, ho1⟩ : ∃ o, Hid (decide (m ∈ codes) = o) := ⟨_, Lib.hid rfl⟩
      cases o1
      case false =>
        go_wp2_with (go_at_call 81; refine (Contains_b n2 a2 cap2 codes m _ φ hφ s2 hn2 hm2 ho1.out).mono ?_; rintro e w' ⟨rfl, rfl⟩)
        go_ret
        exact ⟨ret_int (setF_at hn h0 hlt hok (by rw [hbad.out, if_pos ho1.out]) (by decide)).symm, rfl⟩
      by_cases h3 : 0 < k
      · have hpp := HP.out h3
        have hix : 0 ≤ (k : Int) - 1 := by omega
        have hix2 : (k : Int) - 1 < n := by omega
        have hto : ((k : Int) - 1).toNat = k - 1 := by omega
        go_wp2_with (go_at_call 81; refine (Contains_b n2 a2 cap2 codes m _ φ hφ s2 hn2 hm2 ho1.out).mono ?_; rintro e w' ⟨rfl, rfl⟩)
        all_goals clear hto
        all_goals first
          | (go_ret; exact ⟨ret_int (setF_at hn h0 hlt hok (by rw [hbad.out, if_neg (by rw [ho1.out]; simp), if_pos (by omega)]) (by decide)).symm, rfl⟩)
          | (go_round
             case rel => exact ⟨k + 1, by omega, by go_num, next_ok hok (by rw [hbad.out, if_neg (by rw [ho1.out]; simp), if_neg (by omega)])⟩
             case measure => simp [intOf]; omega)
      · have h3i : decide ((0 : Int) < k) = false := decide_eq_false (by omega)
        go_wp2_with (go_at_call 81; refine (Contains_b n2 a2 cap2 codes m _ φ hφ s2 hn2 hm2 ho1.out).mono ?_; rintro e w' ⟨rfl, rfl⟩)
        go_round
        case rel => exact ⟨k + 1, by omega, by go_num, next_ok hok (by rw [hbad.out, if_neg (by rw [ho1.out]; simp), if_neg (by omega)])⟩
        case measure => (simp [intOf] <;> omega)
    · obtain rfl : k = n := by omega
      go_wp2
      go_ret
      exact ⟨ret_int (setF_ok hn h0 hok).symm, rfl⟩
end Go.Proofs.YtkfmadeeobalaaaDoor

namespace Go.Proofs.YtkfmadeeobalaaaDoor
open Go.RowKit
set_option linter.unusedVariables false

/-- The names ahead of number k. -/
def seenL {α : Type} (l : List (ByteArray × α)) (k : Nat) : List ByteArray := ((l.take k).map (·.1)).reverse
theorem seenL_succ {α : Type} (d : ByteArray × α) (l : List (ByteArray × α)) (k n : Nat) (hn : l.length = n) (h : k < n) : seenL l (k + 1) = (l.getD k d).1 :: seenL l k := by
  unfold seenL
  rw [take_snocD d l k n hn h, List.map_append, List.reverse_append]; rfl
noncomputable def fldBad (fs : List Fld) (k : Nat) : Int := if nameB (fs.getD k fld0).1 = false then 5 else if decide ((fs.getD k fld0).1 ∈ seenL fs k) = true then 6 else fieldF (fs.getD k fld0).2.1 (fs.getD k fld0).2.2
def prodK (fs : List Fld) : Nat → Nat
  | 0 => 1
  | k + 1 => prodK fs k * (fs.getD k fld0).2.1.length
noncomputable def fieldsF (fs : List Fld) : Int := if fs.length = 0 then 9 else if 12 < fs.length then 2 else if scan (fldBad fs) fs.length ≠ 0 then scan (fldBad fs) fs.length else if 20000 < prodK fs fs.length then 2 else 0
theorem fieldF_zero {cs : List Int} {wt : Int} (h : fieldF cs wt = 0) : 0 < cs.length ∧ cs.length ≤ 20 ∧ (∀ i, i < cs.length → codeBad cs i = 0) ∧ outB wt 1 1000 = false := by
  unfold fieldF at h
  split at h
  · cases h
  · next h1 =>
    split at h
    · cases h
    · next h2 =>
      split at h
      · next h3 => exact absurd h h3
      · next h3 =>
        split at h
        · cases h
        · next h4 => exact ⟨by omega, by omega, scan_all _ (by simpa using h3), by simpa using h4⟩
theorem fldBad_zero {fs : List Fld} {k : Nat} (h : fldBad fs k = 0) : nameB (fs.getD k fld0).1 = true ∧ (fs.getD k fld0).1 ∉ seenL fs k ∧ fieldF (fs.getD k fld0).2.1 (fs.getD k fld0).2.2 = 0 := by
  unfold fldBad at h
  split at h
  · cases h
  · next h1 =>
    split at h
    · cases h
    · next h2 => exact ⟨by simpa using h1, by simpa using h2, h⟩
theorem prodK_mono {fs : List Fld} {n : Nat} (h : ∀ i, i < n → 0 < (fs.getD i fld0).2.1.length) : ∀ {k m : Nat}, k ≤ m → m ≤ n → prodK fs k ≤ prodK fs m
  | k, 0, hk, _ => by obtain rfl : k = 0 := by omega
                      exact Nat.le_refl _
  | k, m + 1, hk, hm => by
    by_cases e : k = m + 1
    · subst e; exact Nat.le_refl _
    · have h1 := prodK_mono h (k := k) (m := m) (by omega) (by omega)
      have h2 := h m (by omega)
      rw [prodK]
      exact Nat.le_trans h1 (Nat.le_mul_of_pos_right _ h2)
section
variable {fs : List Fld} {n k : Nat} (hn : Hid (fs.length = n)) (h0 : 0 < n) (hl : n ≤ 12)
include hn h0 hl
theorem fieldsF_at (hk : k < n) (h : Hid (∀ i, i < k → fldBad fs i = 0)) {c : Int} (hc : fldBad fs k = c) (hc0 : c ≠ 0) : fieldsF fs = c := by
  have hs : scan (fldBad fs) n = c := by rw [scan_stop h.out hk (by rw [hc]; exact hc0), hc]
  rw [fieldsF, hn.out, if_neg (by omega), if_neg (by omega), hs, if_pos hc0]
theorem fieldsF_mix (h : Hid (∀ i, i < n → fldBad fs i = 0)) : fieldsF fs = if 20000 < prodK fs n then 2 else 0 := by
  rw [fieldsF, hn.out, if_neg (by omega), if_neg (by omega), scan_zero _ _ h.out, if_neg (by simp)]
end
theorem flds_pos {fs : List Fld} {n : Nat} (h : Hid (∀ i, i < n → fldBad fs i = 0)) : ∀ i, i < n → 0 < (fs.getD i fld0).2.1.length ∧ (fs.getD i fld0).2.1.length ≤ 20 := fun i hi => by
  have := fieldF_zero (fldBad_zero (h.out i hi)).2.2
  exact ⟨this.1, this.2.1⟩
structure FsSt (w : World) (r : Nat) (L : List ByteArray) (wr : World) : Prop where
  bel : Below w.heap.size w wr
  map : SeenW wr r L
  lo : w.heap.size ≤ r
theorem FsSt.callB {w wr w' : World} {r : Nat} {L : List ByteArray} (h : FsSt w r L wr) (hb : Below wr.heap.size wr w') : FsSt w r L w' := ⟨h.bel.trans (hb.mono h.bel.size), h.map.callB hb, h.lo⟩
theorem FsSt.alloc {w wr : World} {r : Nat} {L : List ByteArray} (h : FsSt w r L wr) (o : Obj) : FsSt w r L (wr.alloc o) := h.callB ((Below.refl _ _).alloc (Nat.le_refl _) o)
theorem Below_grown {w0 w w' : World} {r : Nat} (h : Below w0.heap.size w0 w) (hg : w.grownBy w' (some r)) (hr : w0.heap.size ≤ r) : Below w0.heap.size w0 w' :=
  ⟨hg.os.trans h.os, hg.tape.trans h.tape, hg.output.trans h.output, Nat.le_trans h.size hg.size, fun k hk => (hg.block k (Nat.lt_of_lt_of_le hk h.size) (fun e => by cases e; omega)).trans (h.block k hk)⟩
theorem far {w w' : World} {b o : Nat} (h : w'.heap[b]? = w.heap[b]?) : w'.cell? ⟨b, o, none⟩ = w.cell? ⟨b, o, none⟩ ∧ w'.frozen? ⟨b, o, none⟩ = w.frozen? ⟨b, o, none⟩ := by
  unfold World.cell? World.frozen?
  dsimp only
  rw [h]; exact ⟨rfl, rfl⟩
theorem FsSt.put {w wr : World} {r : Nat} {L : List ByteArray} (h : FsSt w r L wr) (k : ByteArray) : ∃ o, (Instr.mapUpdate 149 (.map (some r)) (.string k) (.bool true)).run Tryd.prog wr = .ok () (setMap wr r o) ∧ FsSt w r (k :: L) (setMap wr r o) ∧ wr.grownBy (setMap wr r o) (some r) := by
  obtain ⟨o, h1, h2⟩ := h.map.put k
  exact ⟨o, h1, ⟨Below_grown h.bel (setMap_grown _ r o) h.lo, h2, h.lo⟩, setMap_grown _ r o⟩
def FldG (x : Fld) : Prop := x.1.size ≤ reachBytes

set_option maxRecDepth 100000 in
set_option maxHeartbeats 2000000 in
theorem fieldsFault_any (n : Nat) (a : Option Addr) (cap : Nat) (fs : List Fld) (w : World) (φ : Phi) (hφ : Fz φ w) (s : SlV φ a cap fs) (hn : Hid (fs.length = n)) (hm : n ≤ 9223372036854775807) (hg : Hid (∀ x ∈ fs, FldG x)) :
    Calls Tryd.prog 86 #[.slice a n cap] w (IntB (fieldsF fs) w) := by
  by_cases z : n = 0
  · have Z := Lib.hid z
    have zb : ((n : Int) == 0) = true := by simp [z]
    clear z
    go_enter Tryd.func86, Tryd.ntmps86
    go_wp2
    go_ret
    exact ⟨ret_int (by rw [fieldsF, hn.out, if_pos Z.out]), Below.refl _ _⟩
  have zb : ((n : Int) == 0) = false := by simp; omega
  by_cases hl : 12 < n
  · go_enter Tryd.func86, Tryd.ntmps86
    go_wp2
    go_ret
    exact ⟨ret_int (by rw [fieldsF, hn.out, if_neg z, if_pos hl]), Below.refl _ _⟩
  have h0 : 0 < n := by omega
  have z := Lib.hid z
  have hmm := @run_makeMap Tryd.prog
  have hSt : Hid (FsSt w w.heap.size (seenL fs 0) (w.alloc (.map #[] 0))) := Lib.hid ⟨(Below.refl _ _).alloc (Nat.le_refl _) _, SeenW.new w, Nat.le_refl _⟩
  go_enter Tryd.func86, Tryd.ntmps86
  go_wp2
  clear zb hmm
  generalize w.alloc (.map #[] 0) = wm at *
  generalize hr0 : w.heap.size = r at *
  replace hr0 := Lib.hid hr0
  go_loopw [19] (fun i wr => ∃ k : Nat, k ≤ n ∧ i = .int .i64 k ∧ Hid (∀ i, i < k → fldBad fs i = 0) ∧ Hid (FsSt w r (seenL fs k) wr)) (fun i _ => n - (intOf i).toNat)
  case atStart => exact ⟨0, Nat.zero_le _, rfl, none_yet _, hSt⟩
  case round =>
    clear hSt
    obtain ⟨k, hk, rfl, hok, hS⟩ := hrel
    by_cases hlt : k < n
    · obtain ⟨b, off, rfl, f⟩ := s.fldD hn hlt
      obtain ⟨ac, cc, sk, f⟩ := f k hlt
      obtain ⟨hb, c1, c2, c3⟩ := f wr (hφ.below hS.out.bel)
      have hbad : Hid (fldBad fs k = _) := Lib.hid (fldBad.eq_1 fs k)
      have hsl := Lib.hid (seenL_succ fld0 fs k n hn.out hlt)
      have hgk := Lib.hid (hg.out _ (by rw [getD_elem0 fld0 _ _ (by rw [hn.out]; exact hlt)]; exact List.getElem_mem _) : FldG (fs.getD k fld0))
      clear f
      generalize hX : fs.getD k fld0 = X at *
      obtain ⟨nm, cs, wt⟩ := X
      replace hX := Lib.hid hX
      dsimp only at c1 c2 c3 sk
      replace hbad : Hid (fldBad fs k = if nameB nm = false then 5 else if decide (nm ∈ seenL fs k) = true then 6 else fieldF cs wt) := hbad
      have hcap := sk.capn
      have hcm := sk.capm
      have hgn : Hid (nm.size ≤ reachBytes) := hgk
      obtain ⟨nc, hnc⟩ : ∃ nc, Hid (cs.length = nc) := ⟨_, Lib.hid rfl⟩
      rw [hnc.out] at c2 hcap
      have hS1 := Lib.hid (hS.out.alloc (.cells #[.string nm, .slice ac nc cc, .int .i64 wt] 92))
      have HF := Lib.hid (hφ.below hS1.out.bel)
      have b0 : (wr.alloc (.cells #[.string nm, .slice ac nc cc, .int .i64 wt] 92)).cell? ⟨wr.heap.size, 0, none⟩ = some (.string nm) := box_at 0
      have b1 : (wr.alloc (.cells #[.string nm, .slice ac nc cc, .int .i64 wt] 92)).cell? ⟨wr.heap.size, 1, none⟩ = some (.slice ac nc cc) := box_at 1
      have b2 : (wr.alloc (.cells #[.string nm, .slice ac nc cc, .int .i64 wt] 92)).cell? ⟨wr.heap.size, 2, none⟩ = some (.int .i64 wt) := box_at 2
      have hrlt := hS.out.map.lt
      obtain ⟨o1, ho1⟩ : ∃ o, Hid (nameB nm = o) := ⟨_, Lib.hid rfl⟩
      obtain ⟨o2, ho2⟩ : ∃ o, Hid (decide (nm ∈ seenL fs k) = o) := ⟨_, Lib.hid rfl⟩
      cases o1
      case false =>
        go_wp2_with fail
        refine (IsName_any _ _ hgn.out ho1.out).mono ?_
        rintro e w' ⟨rfl, rfl⟩
        go_wp2
        go_ret
        exact ⟨ret_int (fieldsF_at hn h0 (by omega) hlt hok (by rw [hbad.out, if_pos ho1.out]) (by decide)).symm, hS1.out.bel⟩
      have hlk := hS1.out.map.look nm ho2.out
      cases o2
      case true =>
        go_wp2_with fail
        refine (IsName_any _ _ hgn.out ho1.out).mono ?_
        rintro e w' ⟨rfl, rfl⟩
        go_wp2
        go_ret
        exact ⟨ret_int (fieldsF_at hn h0 (by omega) hlt hok (by rw [hbad.out, if_neg (by rw [ho1.out]; simp), if_pos ho2.out]) (by decide)).symm, hS1.out.bel⟩
      obtain ⟨o, hp, hS2, hgr⟩ := hS1.out.put nm
      have HS2 := Lib.hid hS2
      have hne : wr.heap.size ≠ r := by omega
      have q := fun (o' : Nat) => far (o := o') (hgr.block wr.heap.size (by simp) (by simpa using hne))
      have d0 : (setMap (wr.alloc (.cells #[.string nm, .slice ac nc cc, .int .i64 wt] 92)) r o).cell? ⟨wr.heap.size, 0, none⟩ = some (.string nm) := (q 0).1.trans b0
      have d1 : (setMap (wr.alloc (.cells #[.string nm, .slice ac nc cc, .int .i64 wt] 92)) r o).cell? ⟨wr.heap.size, 1, none⟩ = some (.slice ac nc cc) := (q 1).1.trans b1
      have d2 : (setMap (wr.alloc (.cells #[.string nm, .slice ac nc cc, .int .i64 wt] 92)) r o).cell? ⟨wr.heap.size, 2, none⟩ = some (.int .i64 wt) := (q 2).1.trans b2
      clear hS2 hgr q
      have hff : Hid (fldBad fs k = fieldF cs wt) := Lib.hid (by rw [hbad.out, if_neg (by rw [ho1.out]; simp), if_neg (by rw [ho2.out]; simp)])
      unfold maxLen at hcm
      go_wp2_with fail
      refine (IsName_any _ _ hgn.out ho1.out).mono ?_
      rintro e w' ⟨rfl, rfl⟩
      go_wp2_with fail
      refine (fieldFault_any nm nc ac cc cs wt _ φ (hφ.below HS2.out.bel) sk hnc (by omega)).mono ?_
      rintro e w3 ⟨rfl, hb3⟩
      have hS3 := Lib.hid (HS2.out.callB hb3)
      rw [← hsl.out] at hS3
      clear hlk hp d0 d1 d2 b0 b1 b2 hb3 HS2 hS1 HF
      obtain ⟨q, hq⟩ : ∃ q, Hid (fieldF cs wt = q) := ⟨_, Lib.hid rfl⟩
      rw [hq.out]
      by_cases hq0 : q = 0
      · have hgg : ((q : Int) != 0) = false := by simp [hq0]
        have HQ := Lib.hid hq0
        clear hq0
        go_wp2
        go_roundw
        case rel => exact ⟨k + 1, by omega, by go_num, next_ok hok (by rw [hff.out, hq.out, HQ.out]), hS3⟩
        case measure => (simp [intOf] <;> omega)
      · have hgg : ((q : Int) != 0) = true := by simp [hq0]
        have HQ := Lib.hid hq0
        clear hq0
        go_wp2
        go_ret
        exact ⟨ret_int (fieldsF_at hn h0 (by omega) hlt hok (by rw [hff.out, hq.out]) HQ.out).symm, hS3.out.bel⟩
    · obtain rfl : k = n := by omega
      rename Nat => n
      clear hlt hk
      have hpos := Lib.hid (flds_pos hok)
      have hmix := Lib.hid (fieldsF_mix hn h0 (by omega) hok)
      have HB := Lib.hid hS.out.bel
      clear hok hS
      go_wp2
      go_loopw [7, 42] (fun mx i wr => ∃ k : Nat, k ≤ n ∧ i = .int .i64 k ∧ mx = .int .i64 (prodK fs k : Int) ∧ prodK fs k ≤ 20000 ∧ Hid (Below w.heap.size w wr)) (fun _ i _ => n - (intOf i).toNat)
      case atStart => exact ⟨0, Nat.zero_le _, rfl, rfl, by simp [prodK], HB⟩
      case round =>
        clear HB
        obtain ⟨k, hk, rfl, rfl, hpk, hB⟩ := hrel
        by_cases hlt : k < n
        · obtain ⟨b, off, rfl, f⟩ := s.fldD hn hlt
          obtain ⟨ac, cc, sk, f⟩ := f k hlt
          obtain ⟨hb, c1, c2, c3⟩ := f wr (hφ.below hB.out)
          have hps := Lib.hid (prodK.eq_2 fs k)
          obtain ⟨l1, l2⟩ := hpos.out k hlt
          have hle := Lib.hid (prodK_mono (fun i hi => (hpos.out i hi).1) (k := k + 1) (m := n) (by omega) (Nat.le_refl _))
          clear f
          generalize hX : fs.getD k fld0 = X at *
          obtain ⟨nm, cs, wt⟩ := X
          replace hX := Lib.hid hX
          dsimp only at c1 c2 c3 sk l1 l2
          obtain ⟨nc, hnc⟩ : ∃ nc, Hid (cs.length = nc) := ⟨_, Lib.hid rfl⟩
          replace hps : Hid (prodK fs (k + 1) = prodK fs k * nc) := Lib.hid (by rw [hps.out, ← hnc.out])
          rw [hnc.out] at c2 l1 l2
          have hB1 := Lib.hid (hB.out.alloc hB.out.size (.cells #[.string nm, .slice ac nc cc, .int .i64 wt] 92))
          generalize hpq : prodK fs k = pk at *
          replace hpq := Lib.hid hpq
          have hpb : pk * nc ≤ 400000 := Nat.le_trans (Nat.mul_le_mul hpk l2) (by decide)
          have hpc : ((pk * nc : Nat) : Int) = (pk : Int) * nc := by simp
          have hw0 : IntKind.i64.wrap ((pk : Int) * nc) = ((pk * nc : Nat) : Int) := by rw [hpc]; exact IntWalk.i64_in _ (by rw [← hpc]; omega)
          generalize hmq : pk * nc = m at *
          replace hmq := Lib.hid hmq
          clear hpc
          have hw1 : IntKind.i64.wrap ((pk : Int) * nc) = (m : Int) := hw0
          clear hw0
          by_cases hbig : 20000 < m
          · have HBIG := Lib.hid hbig
            go_wp2
            go_ret
            exact ⟨ret_int (by rw [hmix.out, if_pos (by have := hle.out; have := hps.out; have := HBIG.out; omega)]), hB1.out⟩
          · have hbig2 : m ≤ 20000 := by omega
            go_wp2
            go_roundw
            case rel => exact ⟨k + 1, by omega, by go_num, by rw [hps.out], by rw [hps.out]; exact hbig2, hB1⟩
            case measure => (simp [intOf] <;> omega)
        · obtain rfl : k = n := by omega
          go_wp2
          go_ret
          exact ⟨ret_int (by rw [hmix.out, if_neg (by omega)]), hB.out⟩
end Go.Proofs.YtkfmadeeobalaaaDoor

namespace Go.Proofs.YtkfmadeeobalaaaDoor
open Go.RowKit
set_option linter.unusedVariables false

abbrev Edt := ByteArray × List (List Int)
abbrev edt0 : Edt := (ByteArray.empty, [])
theorem SlV.lists {α : Type} [Rep α] {φ : Phi} {a : Option Addr} {cap : Nat} {gs : List (List α)} (h : SlV φ a cap gs) {k n : Nat} (hn : Hid (gs.length = n)) (hk : k < n) :
    ∃ b off, a = some ⟨b, off, none⟩ ∧ ∀ k, k < n → ∃ ag cg, SlV φ ag cg (gs.getD k []) ∧ ∀ w, Fz φ w → b < w.heap.size ∧ w.cell? ⟨b, off + k, none⟩ = some (.slice ag (gs.getD k []).length cg) := by
  obtain ⟨b, off, ha, hc⟩ := h.cellsD [] hn hk
  refine ⟨b, off, ha, fun k hk => ?_⟩
  obtain ⟨cs, ⟨ag, cg, rfl, hs⟩, hj⟩ := hc k hk
  refine ⟨ag, cg, hs, fun w hw => ?_⟩
  have j0 := hj 0 (by simp)
  simp [Rep.size] at j0
  exact ⟨hw.lt j0, hw.cell j0⟩
theorem SlV.edtD {φ : Phi} {a : Option Addr} {cap : Nat} {xs : List Edt} (h : SlV φ a cap xs) {k n : Nat} (hn : Hid (xs.length = n)) (hk : k < n) :
    ∃ b off, a = some ⟨b, off, none⟩ ∧ ∀ k, k < n → ∃ ac cc, SlV φ ac cc (xs.getD k edt0).2 ∧ ∀ w, Fz φ w → b < w.heap.size ∧ w.cell? ⟨b, off + k * 2, none⟩ = some (.string (xs.getD k edt0).1) ∧ w.cell? ⟨b, off + k * 2 + 1, none⟩ = some (.slice ac (xs.getD k edt0).2.length cc) := by
  obtain ⟨b, off, ha, hc⟩ := h.cellsD edt0 hn hk
  refine ⟨b, off, ha, fun k hk => ?_⟩
  obtain ⟨cs, ⟨c, d, rfl, h1, ⟨ac, cc, rfl, hs⟩⟩, hj⟩ := hc k hk
  cases h1
  refine ⟨ac, cc, hs, fun w hw => ?_⟩
  have j0 := hj 0 (by simp)
  have j1 := hj 1 (by simp)
  simp [Rep.size] at j0 j1
  exact ⟨hw.lt j0, hw.cell j0, hw.cell j1⟩
def setsBad (fs : List Fld) (ss : List (List Int)) (i : Nat) : Int := setF (ss.getD i []) (fs.getD i fld0).2.1
noncomputable def edtBad (fs : List Fld) (es : List Edt) (k : Nat) : Int := if nameB (es.getD k edt0).1 = false then 5 else if decide ((es.getD k edt0).1 ∈ seenL es k) = true then 6 else if (es.getD k edt0).2.length ≠ fs.length then 3 else scan (setsBad fs (es.getD k edt0).2) (es.getD k edt0).2.length
noncomputable def planF (fs : List Fld) (es : List Edt) : Int := if fieldsF fs ≠ 0 then fieldsF fs else if 60 < es.length then 2 else scan (edtBad fs es) es.length
section
variable {fs : List Fld} {es : List Edt} {n k : Nat} (h0 : fieldsF fs = 0) (hn : Hid (es.length = n)) (hl : n ≤ 60)
include h0 hn hl
theorem planF_at (hk : k < n) (h : Hid (∀ i, i < k → edtBad fs es i = 0)) {c : Int} (hc : edtBad fs es k = c) (hc0 : c ≠ 0) : planF fs es = c := by
  rw [planF, if_neg (by simp [h0]), hn.out, if_neg (by omega), scan_stop h.out hk (by rw [hc]; exact hc0), hc]
theorem planF_ok (h : Hid (∀ i, i < n → edtBad fs es i = 0)) : planF fs es = 0 := by
  rw [planF, if_neg (by simp [h0]), hn.out, if_neg (by omega), scan_zero _ _ h.out]
end
structure CpSt (w : World) (r : Nat) (L : List ByteArray) (bp : Nat) (cs : Array Value) (wr : World) : Prop where
  st : FsSt w r L wr
  bx : Blk wr bp cs 25
  ne : bp ≠ r
theorem CpSt.callB {w wr w' : World} {r bp : Nat} {L : List ByteArray} {cs : Array Value} (h : CpSt w r L bp cs wr) (hb : Below wr.heap.size wr w') : CpSt w r L bp cs w' := ⟨h.st.callB hb, h.bx.callB hb, h.ne⟩
theorem CpSt.alloc {w wr : World} {r bp : Nat} {L : List ByteArray} {cs : Array Value} (h : CpSt w r L bp cs wr) (o : Obj) : CpSt w r L bp cs (wr.alloc o) := h.callB ((Below.refl _ _).alloc (Nat.le_refl _) o)
def EdtG (x : Edt) : Prop := x.1.size ≤ reachBytes
theorem fields_len {fs : List Fld} (h : fieldsF fs = 0) : 0 < fs.length ∧ fs.length ≤ 12 := by
  unfold fieldsF at h
  split at h
  · cases h
  · next h1 =>
    split at h
    · cases h
    · next h2 => exact ⟨by omega, by omega⟩

set_option maxRecDepth 100000 in
set_option maxHeartbeats 2000000 in
theorem CheckPlan_any (n : Nat) (a : Option Addr) (cap : Nat) (fs : List Fld) (m : Nat) (ae : Option Addr) (ce : Nat) (es : List Edt) (w : World) (φ : Phi) (hφ : Fz φ w) (s : SlV φ a cap fs) (hn : Hid (fs.length = n)) (hm : n ≤ 9223372036854775807) (hg : Hid (∀ x ∈ fs, FldG x)) (se : SlV φ ae ce es) (hne : Hid (es.length = m)) (hme : m ≤ 9223372036854775807) (hge : Hid (∀ x ∈ es, EdtG x)) :
    Calls Tryd.prog 42 #[.agg #[.slice a n cap, .slice ae m ce]] w (IntB (planF fs es) w) := by
  have hB0 := Lib.hid (Blk.new w #[.slice a n cap, .slice ae m ce] 25)
  have hb0 : Hid (Below w.heap.size w (w.alloc (.cells #[.slice a n cap, .slice ae m ce] 25))) := Lib.hid ((Below.refl _ _).alloc (Nat.le_refl _) _)
  have hmm := @run_makeMap Tryd.prog
  go_enter Tryd.func42, Tryd.ntmps42
  go_wp2_with fail
  refine (fieldsFault_any n a cap fs _ φ (hφ.alloc _) s hn hm hg).mono ?_
  rintro e w1 ⟨rfl, hb1⟩
  obtain ⟨q, hq⟩ : ∃ q, Hid (fieldsF fs = q) := ⟨_, Lib.hid rfl⟩
  rw [hq.out]
  have HB := Lib.hid (hb0.out.trans (hb1.mono hb0.out.size))
  have HX := Lib.hid (hB0.out.callB hb1)
  clear hb1 hB0 hb0
  by_cases h0 : q = 0
  case neg =>
    have hgg : ((q : Int) != 0) = true := by simp [h0]
    have H0 := Lib.hid h0
    clear h0 hmm
    go_wp2
    go_ret
    exact ⟨ret_int (by rw [planF, hq.out, if_pos H0.out]), HB.out⟩
  subst h0
  obtain ⟨hn0, hn12⟩ := fields_len hq.out
  rw [hn.out] at hn0 hn12
  have p1 : w1.cell? ⟨w.heap.size, 1, none⟩ = some (.slice ae m ce) := HX.out.cell 1
  by_cases hl : 60 < m
  · clear hmm
    go_wp2
    go_ret
    exact ⟨ret_int (by rw [planF, hq.out, if_neg (by simp), hne.out, if_pos hl]), HB.out⟩
  have p1' : (w1.alloc (.map #[] 0)).cell? ⟨w.heap.size, 1, none⟩ = some (.slice ae m ce) := (((Below.refl w1.heap.size w1).alloc (Nat.le_refl _) _).cell (p := ⟨w.heap.size, 1, none⟩) HX.out.lt).trans p1
  have hSt : Hid (CpSt w w1.heap.size (seenL es 0) w.heap.size #[.slice a n cap, .slice ae m ce] (w1.alloc (.map #[] 0))) := Lib.hid ⟨⟨HB.out.alloc HB.out.size _, SeenW.new w1, HB.out.size⟩, HX.out.alloc _, by have := HX.out.lt; omega⟩
  go_wp2
  clear hmm p1 p1'
  generalize w1.alloc (.map #[] 0) = wm at *
  generalize w1.heap.size = r at *
  generalize hbp : w.heap.size = bp at *
  replace hbp := Lib.hid hbp
  clear HB HX
  go_loopw [24] (fun i wr => ∃ k : Nat, k ≤ m ∧ i = .int .i64 k ∧ Hid (∀ i, i < k → edtBad fs es i = 0) ∧ Hid (CpSt w r (seenL es k) bp #[.slice a n cap, .slice ae m ce] wr)) (fun i _ => m - (intOf i).toNat)
  case atStart => exact ⟨0, Nat.zero_le _, rfl, none_yet _, hSt⟩
  case round =>
    clear hSt
    obtain ⟨k, hk, rfl, hok, hS⟩ := hrel
    by_cases hlt : k < m
    · obtain ⟨b, off, rfl, f⟩ := se.edtD hne hlt
      obtain ⟨ac, cc, sk, f⟩ := f k hlt
      obtain ⟨hb, c1, c2⟩ := f wr (hφ.below hS.out.st.bel)
      have hbad : Hid (edtBad fs es k = _) := Lib.hid (edtBad.eq_1 fs es k)
      have hsl := Lib.hid (seenL_succ edt0 es k m hne.out hlt)
      have hgk := Lib.hid (hge.out _ (by rw [getD_elem0 edt0 _ _ (by rw [hne.out]; exact hlt)]; exact List.getElem_mem _) : EdtG (es.getD k edt0))
      clear f
      generalize hX : es.getD k edt0 = X at *
      obtain ⟨nm, ss⟩ := X
      replace hX := Lib.hid hX
      dsimp only at c1 c2 sk
      replace hbad : Hid (edtBad fs es k = if nameB nm = false then 5 else if decide (nm ∈ seenL es k) = true then 6 else if ss.length ≠ fs.length then 3 else scan (setsBad fs ss) ss.length) := hbad
      have hcap := sk.capn
      have hcm := sk.capm
      unfold maxLen at hcm
      have hgn : Hid (nm.size ≤ reachBytes) := hgk
      obtain ⟨ns, hns⟩ : ∃ ns, Hid (ss.length = ns) := ⟨_, Lib.hid rfl⟩
      rw [hns.out] at c2 hcap
      rw [hns.out, hn.out] at hbad
      have hS1 := Lib.hid (hS.out.alloc (.cells #[.string nm, .slice ac ns cc] 106))
      have b0 : (wr.alloc (.cells #[.string nm, .slice ac ns cc] 106)).cell? ⟨wr.heap.size, 0, none⟩ = some (.string nm) := box_at 0
      have b1 : (wr.alloc (.cells #[.string nm, .slice ac ns cc] 106)).cell? ⟨wr.heap.size, 1, none⟩ = some (.slice ac ns cc) := box_at 1
      have hrlt := hS.out.st.map.lt
      obtain ⟨o1, ho1⟩ : ∃ o, Hid (nameB nm = o) := ⟨_, Lib.hid rfl⟩
      obtain ⟨o2, ho2⟩ : ∃ o, Hid (decide (nm ∈ seenL es k) = o) := ⟨_, Lib.hid rfl⟩
      cases o1
      case false =>
        go_wp2_with fail
        refine (IsName_any _ _ hgn.out ho1.out).mono ?_
        rintro e w' ⟨rfl, rfl⟩
        go_wp2
        go_ret
        exact ⟨ret_int (planF_at hq.out hne (by omega) hlt hok (by rw [hbad.out, if_pos ho1.out]) (by decide)).symm, hS1.out.st.bel⟩
      have hlk := hS1.out.st.map.look nm ho2.out
      cases o2
      case true =>
        go_wp2_with fail
        refine (IsName_any _ _ hgn.out ho1.out).mono ?_
        rintro e w' ⟨rfl, rfl⟩
        go_wp2
        go_ret
        exact ⟨ret_int (planF_at hq.out hne (by omega) hlt hok (by rw [hbad.out, if_neg (by rw [ho1.out]; simp), if_pos ho2.out]) (by decide)).symm, hS1.out.st.bel⟩
      have hb3 : Hid (edtBad fs es k = if ns ≠ n then 3 else scan (setsBad fs ss) ns) := Lib.hid (by rw [hbad.out, if_neg (by rw [ho1.out]; simp), if_neg (by rw [ho2.out]; simp)])
      obtain ⟨o, hp, hS2, hgr⟩ := hS1.out.st.put nm
      have hne2 : wr.heap.size ≠ r := by omega
      have q1 := (far (o := 1) (hgr.block wr.heap.size (by simp) (by simpa using hne2))).1.trans b1
      have hbx2 := Lib.hid ((hgr.block bp (hS1.out.bx.lt) (by simpa using hS1.out.ne)).trans hS1.out.bx)
      have HS2 : Hid (CpSt w r (seenL es (k + 1)) bp #[.slice a n cap, .slice (some ⟨b, off, none⟩) m ce] (setMap (wr.alloc (.cells #[.string nm, .slice ac ns cc] 106)) r o)) := Lib.hid ⟨by rw [hsl.out]; exact hS2, hbx2.out, hS1.out.ne⟩
      clear hS2 hgr hbx2
      go_wp2_with fail
      refine (IsName_any _ _ hgn.out ho1.out).mono ?_
      rintro e w' ⟨rfl, rfl⟩
      have x0 := HS2.out.bx.cell 0
      replace x0 : (setMap (wr.alloc (.cells #[.string nm, .slice ac ns cc] 106)) r o).cell? ⟨bp, 0, none⟩ = some (.slice a n cap) := x0
      by_cases hns2 : ns = n
      case neg =>
        have hd : ((ns : Int) != n) = true := by simp; omega
        go_wp2
        go_ret
        exact ⟨ret_int (planF_at hq.out hne (by omega) hlt hok (by rw [hb3.out, if_pos hns2]) (by decide)).symm, HS2.out.st.bel⟩
      subst hns2
      have hd : ((ns : Int) != ns) = false := by simp
      go_wp2
      clear hd hlk hp b0 b1
      have hF2 := Lib.hid (hφ.below HS2.out.st.bel)
      generalize setMap (wr.alloc (.cells #[.string nm, .slice ac ns cc] 106)) r o = wy at *
      generalize wr.heap.size = bx at *
      go_loop [49] (fun i => ∃ j : Nat, j ≤ ns ∧ i = .int .i64 j ∧ Hid (∀ i, i < j → setsBad fs ss i = 0)) (fun i => ns - (intOf i).toNat)
      case atStart => exact ⟨0, Nat.zero_le _, rfl, none_yet _⟩
      case round =>
        obtain ⟨j, hj, rfl, hzj⟩ := hrel
        by_cases hjl : j < ns
        · obtain ⟨bs, os, rfl, fS⟩ := sk.lists hns hjl
          obtain ⟨a1, c1', sj, fS⟩ := fS j hjl
          have y1 := (fS wy hF2.out).2
          obtain ⟨bf, of_, hab, fF⟩ := s.fldD hn hjl
          obtain ⟨a2, c2', sf, fF⟩ := fF j hjl
          have y2 := (fF wy hF2.out).2.2.1
          subst hab
          have hsb : Hid (setsBad fs ss j = setF (ss.getD j []) (fs.getD j fld0).2.1) := Lib.hid rfl
          clear fS fF
          generalize ss.getD j [] = st at *
          generalize (fs.getD j fld0).2.1 = cd at *
          obtain ⟨n1, hn1⟩ : ∃ n1, Hid (st.length = n1) := ⟨_, Lib.hid rfl⟩
          obtain ⟨n2, hn2⟩ : ∃ n2, Hid (cd.length = n2) := ⟨_, Lib.hid rfl⟩
          rw [hn1.out] at y1
          rw [hn2.out] at y2
          have e1 := sj.capn
          have e2 := sj.capm
          have e3 := sf.capn
          have e4 := sf.capm
          rw [hn1.out] at e1
          rw [hn2.out] at e3
          unfold maxLen at e2 e4
          go_wp2_with fail
          refine (setFault_any n1 a1 c1' st n2 a2 c2' cd wy φ hF2.out sj hn1 (by omega) sf hn2 (by omega)).mono ?_
          rintro e w' ⟨rfl, rfl⟩
          obtain ⟨q', hq'⟩ : ∃ q, Hid (setF st cd = q) := ⟨_, Lib.hid rfl⟩
          rw [hq'.out]
          by_cases hz : q' = 0
          · have hgg : ((q' : Int) != 0) = false := by simp [hz]
            have HZ := Lib.hid hz
            clear hz
            go_wp2
            go_round
            case rel => exact ⟨j + 1, by omega, by go_num, next_ok hzj (by rw [hsb.out, hq'.out, HZ.out])⟩
            case measure => (simp [intOf] <;> omega)
          · have hgg : ((q' : Int) != 0) = true := by simp [hz]
            have HZ := Lib.hid hz
            clear hz
            go_wp2
            go_ret
            refine ⟨ret_int (planF_at hq.out hne (by omega) hlt hok (by rw [hb3.out, if_neg (by simp), scan_stop hzj.out hjl (by rw [hsb.out, hq'.out]; exact HZ.out), hsb.out, hq'.out]) HZ.out).symm, HS2.out.st.bel⟩
        · obtain rfl : j = ns := by omega
          go_wp2
          go_roundw
          case rel => exact ⟨k + 1, by omega, by go_num, next_ok hok (by rw [hb3.out, if_neg (by simp), scan_zero _ _ hzj.out]), HS2⟩
          case measure => (simp [intOf] <;> omega)
    · obtain rfl : k = m := by omega
      go_wp2
      go_ret
      exact ⟨ret_int (planF_ok hq.out hne (by omega) hok).symm, hS.out.st.bel⟩
end Go.Proofs.YtkfmadeeobalaaaDoor

namespace Go.Proofs.YtkfmadeeobalaaaDoor
open Go.RowKit
set_option linter.unusedVariables false

theorem bits_or32 {x k : Nat} (hx : x < 4294967296) (hk : k < 32) : bits .or .u32 (x : Int) ((2 : Int) ^ k % 4294967296) = ((x ||| 2 ^ k : Nat) : Int) := by
  have hp : 2 ^ k < 2 ^ 32 := Nat.pow_lt_pow_right (by decide) hk
  have h : x ||| 2 ^ k < 2 ^ 32 := Nat.or_lt_two_pow hx hp
  have hp2 : ((2 : Int) ^ k) = ((2 ^ k : Nat) : Int) := by simp
  have hp' : 2 ^ k < 4294967296 := hp
  have h' : x ||| 2 ^ k < 4294967296 := h
  rw [hp2]
  generalize 2 ^ k = y at *
  have e : (BitVec.ofInt 32 (x : Int) ||| BitVec.ofInt 32 ((y : Int) % 4294967296)).toNat = x ||| y := by
    rw [BitVec.toNat_or, BitVec.toNat_ofInt, BitVec.toNat_ofInt]
    congr 1 <;> omega
  show IntKind.u32.wrap ((BitVec.ofInt 32 (x : Int) ||| BitVec.ofInt 32 ((y : Int) % 4294967296)).toNat : Int) = _
  rw [e]
  simp [IntKind.wrap, IntKind.bits, IntKind.signed]
  omega
theorem bits_and1 {x : Nat} (hx : x < 4294967296) : bits .and .u32 (x : Int) 1 = ((x % 2 : Nat) : Int) := by
  have e : (BitVec.ofInt 32 (x : Int) &&& BitVec.ofInt 32 1).toNat = x % 2 := by
    rw [BitVec.toNat_and, BitVec.toNat_ofInt, BitVec.toNat_ofInt]
    have h1 : ((x : Int) % ((2 ^ 32 : Nat) : Int)).toNat = x := by omega
    have h2 : ((1 : Int) % ((2 ^ 32 : Nat) : Int)).toNat = 1 := by decide
    rw [h1, h2, Nat.and_one_is_mod]
  show IntKind.u32.wrap ((BitVec.ofInt 32 (x : Int) &&& BitVec.ofInt 32 1).toNat : Int) = _
  rw [e]
  simp [IntKind.wrap, IntKind.bits, IntKind.signed]
  omega
end Go.Proofs.YtkfmadeeobalaaaDoor

namespace Go.Proofs.YtkfmadeeobalaaaDoor
open Go.RowKit
set_option linter.unusedVariables false

/-- A word of 32 bits. -/
structure U32 where
  v : Nat
instance : Rep U32 where
  size := 1
  rep := fun _ x cs => cs = [.int .u32 (x.v : Int)]
  len := by intro _ _ _ h; subst h; rfl
  mono := fun _ h => h
  one := by intro _ _ _ h u hu; subst h; simp at hu; subst hu; rfl
abbrev u320 : U32 := ⟨0⟩
theorem SlV.u32D {φ : Phi} {a : Option Addr} {cap : Nat} {xs : List U32} (h : SlV φ a cap xs) {k n : Nat} (hn : Hid (xs.length = n)) (hk : k < n) :
    ∃ b off, a = some ⟨b, off, none⟩ ∧ ∀ k, k < n → ∀ w, Fz φ w → b < w.heap.size ∧ w.cell? ⟨b, off + k, none⟩ = some (.int .u32 ((xs.getD k u320).v : Int)) := by
  obtain ⟨b, off, ha, hc⟩ := h.cellsD u320 hn hk
  refine ⟨b, off, ha, fun k hk w hw => ?_⟩
  obtain ⟨cs, h1, hj⟩ := hc k hk
  cases h1
  have j0 := hj 0 (by simp)
  simp [Rep.size] at j0
  exact ⟨hw.lt j0, hw.cell j0⟩
/-- The bits of the first k codes of a set. -/
def bitK (codes set : List Int) : Nat → Nat
  | 0 => 0
  | k + 1 => bitK codes set k ||| 2 ^ codes.idxOf (set.getD k 0)
def boxK (fs : List Fld) (ss : List (List Int)) (k : Nat) : List U32 := (List.range k).map (fun i => ⟨bitK (fs.getD i fld0).2.1 (ss.getD i []) (ss.getD i []).length⟩)
def boxes (fs : List Fld) (es : List Edt) (k : Nat) : List (List U32) := (List.range k).map (fun i => boxK fs (es.getD i edt0).2 (es.getD i edt0).2.length)
theorem boxK_succ (fs : List Fld) (ss : List (List Int)) (k : Nat) : boxK fs ss (k + 1) = boxK fs ss k ++ [⟨bitK (fs.getD k fld0).2.1 (ss.getD k []) (ss.getD k []).length⟩] := by
  unfold boxK; rw [List.range_succ, List.map_append]; rfl
theorem boxes_succ (fs : List Fld) (es : List Edt) (k : Nat) : boxes fs es (k + 1) = boxes fs es k ++ [boxK fs (es.getD k edt0).2 (es.getD k edt0).2.length] := by
  unfold boxes; rw [List.range_succ, List.map_append]; rfl
theorem boxK_len (fs : List Fld) (ss : List (List Int)) (k : Nat) : (boxK fs ss k).length = k := by unfold boxK; simp
theorem boxes_len (fs : List Fld) (es : List Edt) (k : Nat) : (boxes fs es k).length = k := by unfold boxes; simp
theorem bitK_lt {codes set : List Int} (hc : codes.length ≤ 20) : ∀ {k : Nat}, (∀ i, i < k → set.getD i 0 ∈ codes) → bitK codes set k < 1048576
  | 0, _ => by simp [bitK]
  | k + 1, h => by
    have h1 := bitK_lt hc (k := k) (fun i hi => h i (by omega))
    have h2 : codes.idxOf (set.getD k 0) < 20 := Nat.lt_of_lt_of_le (List.idxOf_lt_length_of_mem (h k (by omega))) hc
    have h3 : 2 ^ codes.idxOf (set.getD k 0) < 2 ^ 20 := Nat.pow_lt_pow_right (by decide) h2
    exact Nat.or_lt_two_pow (n := 20) h1 h3
theorem slU : SliceTy Tryd.prog 132 133 (.int .u32 0) (Rep.size U32) 4 := ⟨Tryd.underlying132, by kernel_rfl, rfl, by decide, by decide⟩
theorem slB : SliceTy Tryd.prog 128 132 (.slice none 0 0) (Rep.size (List U32)) 24 := ⟨Tryd.underlying128, by kernel_rfl, rfl, by decide, by decide⟩
theorem setF_zero {set codes : List Int} (h : setF set codes = 0) : 0 < set.length ∧ ∀ i, i < set.length → set.getD i 0 ∈ codes := by
  unfold setF at h
  split at h
  · cases h
  · next h1 =>
    refine ⟨by omega, fun i hi => ?_⟩
    have := scan_all _ h i hi
    unfold setBad at this
    split at this
    · cases this
    · next h2 => simpa using h2
/-- A plan that is right. -/
structure PlOk (fs : List Fld) (es : List Edt) (n m : Nat) : Prop where
  len : fs.length = n
  elen : es.length = m
  pos : 0 < n ∧ n ≤ 12
  cnt : m ≤ 60
  fld : ∀ i, i < n → fldBad fs i = 0
  mix : prodK fs n ≤ 20000
  edt : ∀ i, i < m → (es.getD i edt0).2.length = n ∧ ∀ j, j < n → setF ((es.getD i edt0).2.getD j []) (fs.getD j fld0).2.1 = 0
theorem planF_zero {fs : List Fld} {es : List Edt} (h : planF fs es = 0) : PlOk fs es fs.length es.length := by
  unfold planF at h
  split at h
  · next h1 => exact absurd h h1
  · next h1 =>
    have h1 : fieldsF fs = 0 := by simpa using h1
    split at h
    · cases h
    · next h2 =>
      have h3 := scan_all _ h
      obtain ⟨q1, q2⟩ := fields_len h1
      unfold fieldsF at h1
      rw [if_neg (by omega), if_neg (by omega)] at h1
      split at h1
      · next h4 => exact absurd h1 h4
      · next h4 =>
        have h5 := scan_all _ (by simpa using h4 : scan (fldBad fs) fs.length = 0)
        split at h1
        · cases h1
        · next h6 =>
          refine ⟨rfl, rfl, ⟨q1, q2⟩, by omega, h5, by omega, fun i hi => ?_⟩
          have := h3 i hi
          unfold edtBad at this
          split at this
          · cases this
          · split at this
            · cases this
            · split at this
              · cases this
              · next h7 =>
                have h7 : (es.getD i edt0).2.length = fs.length := by simpa using h7
                refine ⟨h7, fun j hj => ?_⟩
                exact scan_all _ this j (by omega)
end Go.Proofs.YtkfmadeeobalaaaDoor

namespace Go.Proofs.YtkfmadeeobalaaaDoor
open Go.RowKit
set_option linter.unusedVariables false

theorem rowne {a : Option Addr} {g : Nat} (h : ∀ y, a = some y → y.block ≠ g) : some g ≠ a.map (·.block) := by
  cases a with
  | none => simp
  | some y => simpa using (h y rfl).symm
/-- The state of rulesOf: its boxes so far, the box in the making, the block of the rules, the block of the plan. -/
structure RuSt (w0 : World) (φ0 φ : Phi) (bp br : Nat) (p q : Value) (ao : Option Addr) (co : Nat) (xs : List (List U32)) (al : Option Addr) (cl : Nat) (ys : List U32) (wr : World) : Prop where
  le : φ0.le φ
  new : ∀ b, b < w0.heap.size → φ b = φ0 b
  ow : Ow2 w0 φ 132 133 ao co xs al cl ys wr
  bx : Blk wr br #[p, q, .slice ao xs.length co] 130
  free : φ br = none
  lo : w0.heap.size ≤ br
  pl : Blk wr bp #[p, q] 25
  ne : bp ≠ br
  far1 : ∀ x, ao = some x → x.block ≠ br ∧ x.block ≠ bp
  far2 : ∀ x, al = some x → x.block ≠ br ∧ x.block ≠ bp
section
variable {w0 wr w' : World} {φ0 φ : Phi} {bp br : Nat} {p q : Value} {ao al : Option Addr} {co cl : Nat} {xs : List (List U32)} {ys : List U32}
theorem RuSt.callB (h : RuSt w0 φ0 φ bp br p q ao co xs al cl ys wr) (hb : Below wr.heap.size wr w') : RuSt w0 φ0 φ bp br p q ao co xs al cl ys w' :=
  ⟨h.le, h.new, h.ow.callB hb, h.bx.callB hb, h.free, h.lo, h.pl.callB hb, h.ne, h.far1, h.far2⟩
theorem RuSt.alloc (h : RuSt w0 φ0 φ bp br p q ao co xs al cl ys wr) (o : Obj) : RuSt w0 φ0 φ bp br p q ao co xs al cl ys (wr.alloc o) := h.callB ((Below.refl _ _).alloc (Nat.le_refl _) o)
theorem RuSt.fz (h : RuSt w0 φ0 φ bp br p q ao co xs al cl ys wr) : Fz φ0 wr := h.ow.inv.fz.sub h.le
theorem RuSt.in1 (h : RuSt w0 φ0 φ bp br p q ao co xs al cl ys wr) {o : Obj} {a' : Option Addr} {c' : Nat} {ys' : List U32} (hi : Inv w0.heap.size w0 φ φ w') (ho : Own w0.heap.size φ w' 133 a' c' ys') (hg : (wr.alloc o).grownBy w' (al.map (·.block))) (hf : ∀ x, a' = some x → al.map (·.block) = some x.block ∨ (wr.alloc o).heap.size ≤ x.block) : RuSt w0 φ0 φ bp br p q ao co xs a' c' ys' w' := by
  have k := h.alloc o
  refine ⟨h.le, h.new, (k.ow.swap.step1 hi ho hg hf).swap, (hg.block br k.bx.lt (rowne (fun y hy => (h.far2 y hy).1))).trans k.bx, h.free, h.lo, (hg.block bp k.pl.lt (rowne (fun y hy => (h.far2 y hy).2))).trans k.pl, h.ne, h.far1, fun x hx => ?_⟩
  have l1 := k.bx.lt
  have l2 := k.pl.lt
  rcases hf x hx with hh | hh
  · cases al with
    | none => cases hh
    | some z => have := h.far2 z rfl; simp at hh; omega
  · omega
/-- The box in the making is done. -/
theorem RuSt.frozen2 (h : RuSt w0 φ0 φ bp br p q ao co xs al cl ys wr) : ∃ φ', RuSt w0 φ0 φ' bp br p q ao co xs none 0 [] wr ∧ SlV φ' al cl ys := by
  obtain ⟨φ1, l1, i1, s1, f1⟩ := h.ow.o2.release h.ow.inv
  refine ⟨φ1, ⟨h.le.trans l1, fun b hb => (i1.new b hb).trans (h.new b hb), ⟨⟨i1.bel, i1.base, i1.fz, φ1.le_refl, fun _ _ => rfl⟩, ?_, Own.nil _ _ _ _, fun _ _ _ h => by cases h⟩, h.bx, ?_, h.lo, h.pl, h.ne, h.far1, fun _ h => by cases h⟩, s1⟩
  · obtain ⟨⟨cells, hr, hl⟩, hfr⟩ := h.ow.o1
    refine ⟨⟨cells, hr, hl.mono l1⟩, fun y hy => ?_⟩
    rw [f1 _ (fun e => ?_)]
    · exact hfr y hy
    · cases al with
      | none => cases e
      | some z => exact h.ow.ne y z hy rfl (by simpa using e)
  · rw [f1 _ (rowne (fun y hy => (h.far2 y hy).1))]; exact h.free
theorem RuSt.fresh (h : RuSt w0 φ0 φ bp br p q ao co xs al cl ys wr) : RuSt w0 φ0 φ bp br p q ao co xs none 0 [] wr :=
  ⟨h.le, h.new, ⟨h.ow.inv, h.ow.o1, Own.nil _ _ _ _, fun _ _ _ h => by cases h⟩, h.bx, h.free, h.lo, h.pl, h.ne, h.far1, fun _ h => by cases h⟩
theorem RuSt.blk4 (h : RuSt w0 φ0 φ bp br p q ao co xs al cl ys wr) {o : Obj} (hg : (wr.alloc o).grownBy w' (ao.map (·.block))) : Blk w' br #[p, q, .slice ao xs.length co] 130 ∧ Blk w' bp #[p, q] 25 :=
  ⟨(hg.block br (h.alloc o).bx.lt (rowne (fun y hy => (h.far1 y hy).1))).trans (h.alloc o).bx, (hg.block bp (h.alloc o).pl.lt (rowne (fun y hy => (h.far1 y hy).2))).trans (h.alloc o).pl⟩
theorem RuSt.out1 (h : RuSt w0 φ0 φ bp br p q ao co xs none 0 [] wr) {o : Obj} {a' : Option Addr} {c' : Nat} {xs' : List (List U32)} (hi : Inv w0.heap.size w0 φ φ w') (ho : Own w0.heap.size φ w' 132 a' c' xs') (hg : (wr.alloc o).grownBy w' (ao.map (·.block))) (hf : ∀ x, a' = some x → ao.map (·.block) = some x.block ∨ (wr.alloc o).heap.size ≤ x.block) : RuSt w0 φ0 φ bp br p q a' c' xs' none 0 [] (w'.setCell ⟨br, 2, none⟩ (.slice a' xs'.length c')) := by
  have k := h.alloc o
  have l1 := k.bx.lt
  have l2 := k.pl.lt
  obtain ⟨b1, b2⟩ := h.blk4 hg
  have hfar : ∀ x, a' = some x → x.block ≠ br ∧ x.block ≠ bp := fun x hx => by
    rcases hf x hx with hh | hh
    · cases ao with
      | none => cases hh
      | some z => have := h.far1 z rfl; simp at hh; omega
    · omega
  have hgr : w'.grownBy (w'.setCell ⟨br, 2, none⟩ (.slice a' xs'.length c')) (some br) := ⟨rfl, rfl, rfl, by simp [World.setCell], fun k _ hk => Below.heap_setCell _ _ _ _ (by intro e; exact hk (by rw [e]))⟩
  exact ⟨h.le, h.new, ⟨hi.setCell h.lo h.free _, ho.other hgr (fun x hx e => (hfar x hx).1 (by cases e; rfl)), Own.nil _ _ _ _, fun _ _ _ h => by cases h⟩, b1.set 2 _, h.free, h.lo, b2.other (fun e => h.ne e.symm) _, h.ne, hfar, fun _ h => by cases h⟩
end
/-- Rules in the frozen heap. -/
def RulF (φ : Phi) (br : Nat) (fs : List Fld) (es : List Edt) : Prop :=
  ∃ a n cap ae m ce ab cb, φ br = some (.cells #[.slice a n cap, .slice ae m ce, .slice ab m cb] 130 (0, 0)) ∧ SlV φ a cap fs ∧ fs.length = n ∧ SlV φ ae ce es ∧ es.length = m ∧ SlV φ ab cb (boxes fs es m)
def RulPost (fs : List Fld) (es : List Edt) (φ : Phi) (w : World) (e : Ending) (w' : World) : Prop :=
  ∃ φ', Inv w.heap.size w φ φ' w' ∧ ((planF fs es ≠ 0 ∧ e = .returned (.tuple #[.pointer none, .int .i64 (planF fs es)])) ∨ (planF fs es = 0 ∧ ∃ br, e = .returned (.tuple #[.pointer (some ⟨br, 0, none⟩), .int .i64 0]) ∧ RulF φ' br fs es))
theorem RuSt.fin {w0 wr : World} {φ0 φ : Phi} {bp br n m cap ce : Nat} {a ae : Option Addr} {ao al : Option Addr} {co cl : Nat} {ys : List U32} {fs : List Fld} {es : List Edt}
    (h : RuSt w0 φ0 φ bp br (.slice a n cap) (.slice ae m ce) ao co (boxes fs es m) al cl ys wr) (s : SlV φ0 a cap fs) (hn : fs.length = n) (se : SlV φ0 ae ce es) (hm : es.length = m) : ∃ φ', Inv w0.heap.size w0 φ0 φ' wr ∧ RulF φ' br fs es := by
  obtain ⟨φ1, l1, i1, s1, f1⟩ := h.ow.o1.release h.ow.inv
  have hf : φ1 br = none := by rw [f1 _ (rowne (fun y hy => (h.far1 y hy).1))]; exact h.free
  have hb := h.bx
  rw [boxes_len] at hb
  have l2 := φ1.le_upd br (.cells #[.slice a n cap, .slice ae m ce, .slice ao m co] 130 (0, 0)) hf
  have lo := h.lo
  refine ⟨φ1.upd br (.cells #[.slice a n cap, .slice ae m ce, .slice ao m co] 130 (0, 0)), ⟨i1.bel, i1.base, i1.fz.upd hb, (h.le.trans l1).trans l2, fun b hb => ?_⟩, a, n, cap, ae, m, ce, ao, co, ?_, s.mono ((h.le.trans l1).trans l2), hn, se.mono ((h.le.trans l1).trans l2), hm, s1.mono l2⟩
  · unfold Phi.upd; rw [if_neg (by omega)]; exact (i1.new b hb).trans (h.new b hb)
  · unfold Phi.upd; rw [if_pos rfl]
set_option maxRecDepth 100000 in
set_option maxHeartbeats 2000000 in
theorem rulesOf_any (n : Nat) (a : Option Addr) (cap : Nat) (fs : List Fld) (m : Nat) (ae : Option Addr) (ce : Nat) (es : List Edt) (w : World) (φ : Phi) (hφ : Fz φ w) (s : SlV φ a cap fs) (hn : Hid (fs.length = n)) (hm : n ≤ 9223372036854775807) (hg : Hid (∀ x ∈ fs, FldG x)) (se : SlV φ ae ce es) (hne : Hid (es.length = m)) (hme : m ≤ 9223372036854775807) (hge : Hid (∀ x ∈ es, EdtG x)) :
    Calls Tryd.prog 22 #[.agg #[.slice a n cap, .slice ae m ce]] w (RulPost fs es φ w) := by
  have hB0 := Lib.hid (Blk.new w #[.slice a n cap, .slice ae m ce] 25)
  have hb0 : Hid (Inv w.heap.size w φ φ (w.alloc (.cells #[.slice a n cap, .slice ae m ce] 25))) := Lib.hid ((Inv.start hφ).alloc _)
  go_enter Tryd.func22, Tryd.ntmps22
  go_wp2_with fail
  refine (CheckPlan_any n a cap fs m ae ce es _ φ (hφ.alloc _) s hn hm hg se hne hme hge).mono ?_
  rintro e w1 ⟨rfl, hb1⟩
  obtain ⟨q, hq⟩ : ∃ q, Hid (planF fs es = q) := ⟨_, Lib.hid rfl⟩
  rw [hq.out]
  have HB := Lib.hid (hb0.out.callB hb1)
  have HX := Lib.hid (hB0.out.callB hb1)
  clear hb1 hB0 hb0
  by_cases h0 : q = 0
  case neg =>
    have hgg : ((q : Int) != 0) = true := by simp [h0]
    have H0 := Lib.hid h0
    clear h0
    go_wp2
    go_ret2
    exact ⟨φ, HB.out, .inl ⟨by rw [hq.out]; exact H0.out, by rw [hq.out]; rfl⟩⟩
  subst h0
  have OK := Lib.hid (planF_zero hq.out)
  rw [hn.out, hne.out] at OK
  have hn12 := OK.out.pos
  have hm60 := OK.out.cnt
  have p0 : w1.cell? ⟨w.heap.size, 0, none⟩ = some (.slice a n cap) := HX.out.cell 0
  have p1 : w1.cell? ⟨w.heap.size, 1, none⟩ = some (.slice ae m ce) := HX.out.cell 1
  have p1' : (w1.alloc (.cells #[.slice a n cap, .slice ae m ce, .slice none 0 0] 130)).cell? ⟨w.heap.size, 1, none⟩ = some (.slice ae m ce) := (HX.out.alloc _).cell 1
  have hSt : Hid (RuSt w φ φ w.heap.size w1.heap.size (.slice a n cap) (.slice ae m ce) none 0 (boxes fs es 0) none 0 [] (w1.alloc (.cells #[.slice a n cap, .slice ae m ce, .slice none 0 0] 130))) :=
    Lib.hid ⟨φ.le_refl, fun _ _ => rfl, ⟨HB.out.alloc _, Own.nil _ _ _ _, Own.nil _ _ _ _, (fun _ _ h => by cases h)⟩, Blk.new w1 _ _, by
      cases hφ1 : φ w1.heap.size with
      | none => rfl
      | some ob => have := HB.out.fz.mlt hφ1; omega, HB.out.size, HX.out.alloc _, by have := HX.out.lt; omega, (fun _ h => by cases h), (fun _ h => by cases h)⟩
  go_wp2
  clear p0 p1 p1'
  generalize w1.alloc (.cells #[.slice a n cap, .slice ae m ce, .slice none 0 0] 130) = wm at *
  generalize w1.heap.size = br at *
  generalize hbp : w.heap.size = bp at *
  replace hbp := Lib.hid hbp
  clear HB HX
  go_loopw [25] (fun i wr => ∃ (k : Nat) (φ' : Phi) (ao : Option Addr) (co : Nat), k ≤ m ∧ i = .int .i64 k ∧ Hid (RuSt w φ φ' bp br (.slice a n cap) (.slice ae m ce) ao co (boxes fs es k) none 0 [] wr)) (fun i _ => m - (intOf i).toNat)
  case atStart => exact ⟨0, φ, none, 0, Nat.zero_le _, rfl, hSt⟩
  case round =>
    clear hSt
    obtain ⟨k, φ', ao, co, hk, rfl, hS⟩ := hrel
    by_cases hlt : k < m
    · obtain ⟨b, off, rfl, f⟩ := se.edtD hne hlt
      obtain ⟨ac, cc, sk, f⟩ := f k hlt
      obtain ⟨hb, c1, c2⟩ := f wr hS.out.fz
      have hss := Lib.hid (OK.out.edt k hlt)
      have hbs := Lib.hid (boxes_succ fs es k)
      clear f
      generalize hX : es.getD k edt0 = X at *
      obtain ⟨nm, ss⟩ := X
      replace hX := Lib.hid hX
      dsimp only at c1 c2 sk
      replace hss : Hid (ss.length = n ∧ ∀ j, j < n → setF (ss.getD j []) (fs.getD j fld0).2.1 = 0) := hss
      have hns : Hid (ss.length = n) := Lib.hid hss.out.1
      have hcap := sk.capn
      have hcm := sk.capm
      unfold maxLen at hcm
      rw [hns.out] at c2 hcap
      have hS1 := Lib.hid (hS.out.alloc (.cells #[.string nm, .slice ac n cc] 106))
      have b1 : (wr.alloc (.cells #[.string nm, .slice ac n cc] 106)).cell? ⟨wr.heap.size, 1, none⟩ = some (.slice ac n cc) := box_at 1
      go_wp2
      clear b1 c1 c2 hb
      generalize wr.alloc (.cells #[.string nm, .slice ac n cc] 106) = wy at *
      generalize wr.heap.size = bx at *
      go_loopw [8, 32] (fun sl i wr => ∃ (j : Nat) (al : Option Addr) (cl : Nat), j ≤ n ∧ sl = .slice al (boxK fs ss j).length cl ∧ i = .int .i64 j ∧ Hid (RuSt w φ φ' bp br (.slice a n cap) (.slice (some ⟨b, off, none⟩) m ce) ao co (boxes fs es k) al cl (boxK fs ss j) wr)) (fun _ i _ => n - (intOf i).toNat)
      case atStart => exact ⟨0, none, 0, Nat.zero_le _, rfl, rfl, hS1⟩
      case round =>
        clear hS1 hS
        obtain ⟨j, al, cl, hj, rfl, rfl, hS2⟩ := hrel
        by_cases hjl : j < n
        · obtain ⟨bs, os, rfl, fS⟩ := sk.lists hns hjl
          obtain ⟨a1, c1', sj, fS⟩ := fS j hjl
          have y1 := (fS wr hS2.out.fz).2
          obtain ⟨bf, of_, hab, fF⟩ := s.fldD hn hjl
          obtain ⟨a2, c2', sf, fF⟩ := fF j hjl
          have y2 := (fF wr hS2.out.fz).2.2.1
          have pl0 : wr.cell? ⟨bp, 0, none⟩ = some (.slice a n cap) := hS2.out.pl.cell 0
          have hbk := Lib.hid (boxK_succ fs ss j)
          have hbl := Lib.hid (boxK_len fs ss j)
          have hF := Lib.hid hS2.out.fz
          have hsz := Lib.hid (setF_zero (hss.out.2 j hjl))
          have hcl := (fieldF_zero (fldBad_zero (OK.out.fld j hjl)).2.2).2.1
          subst hab
          clear fS fF
          generalize ss.getD j [] = st at *
          generalize (fs.getD j fld0).2.1 = cd at *
          obtain ⟨n1, hn1⟩ : ∃ n1, Hid (st.length = n1) := ⟨_, Lib.hid rfl⟩
          obtain ⟨n2, hn2⟩ : ∃ n2, Hid (cd.length = n2) := ⟨_, Lib.hid rfl⟩
          rw [hn1.out] at y1
          rw [hn2.out] at y2
          have e1 := sj.capn
          have e2 := sj.capm
          have e3 := sf.capn
          have e4 := sf.capm
          rw [hn1.out] at e1
          rw [hn2.out] at e3
          unfold maxLen at e2 e4
          have hcl20 : Hid (cd.length ≤ 20) := Lib.hid hcl
          clear hcl
          go_wp2
          clear y1
          go_loop [11, 39] (fun bb i => ∃ q : Nat, q ≤ n1 ∧ bb = .int .u32 ((bitK cd st q : Nat) : Int) ∧ i = .int .i64 q) (fun _ i => n1 - (intOf i).toNat)
          case atStart => exact ⟨0, Nat.zero_le _, rfl, rfl⟩
          case round =>
            obtain ⟨q, hq1, rfl, rfl⟩ := hrel
            by_cases hql : q < n1
            · obtain ⟨bt, ot, rfl, fT⟩ := sj.intsD hn1 hql
              have z1 := (fT q hql wr hF.out).2
              have hmem := Lib.hid (hsz.out.2 q (by rw [hn1.out]; exact hql))
              have hbit := Lib.hid (bitK_lt hcl20.out (k := q) (fun i hi => hsz.out.2 i (by rw [hn1.out]; omega)))
              have hbs2 : Hid (bitK cd st (q + 1) = bitK cd st q ||| 2 ^ cd.idxOf (st.getD q 0)) := Lib.hid rfl
              clear fT
              generalize st.getD q 0 = x at *
              have hix : Hid (idI cd x = ((cd.idxOf x : Nat) : Int)) := Lib.hid (by rw [idI, if_pos hmem.out])
              have hi20 : cd.idxOf x < 20 := Nat.lt_of_lt_of_le (List.idxOf_lt_length_of_mem hmem.out) hcl20.out
              generalize cd.idxOf x = ix at *
              have hpw : 2 ^ ix < 4294967296 := Nat.lt_of_lt_of_le (Nat.pow_lt_pow_right (by decide) hi20) (by decide)
              have hor := Lib.hid (bits_or32 (x := bitK cd st q) (k := ix) (by have := hbit.out; omega) (by omega))
              go_wp2_with fail
              refine (Index_ex n2 a2 c2' cd x wr φ hF.out sf hn2 (by omega) hix.out).mono ?_
              rintro e w' ⟨rfl, rfl⟩
              go_wp2
              go_round
              case rel => exact ⟨q + 1, by omega, by rw [hbs2.out]; exact congrArg (Value.int .u32) hor.out, by go_num⟩
              case measure => (simp [intOf] <;> omega)
            · obtain rfl : q = n1 := by omega
              have hin := Lib.hid hS2.out.ow.inv
              have hon := Lib.hid hS2.out.ow.o2
              go_wp2_with (at_builtin; refine wpList_app1F (α := U32) rfl _ _ 132 rfl slU hin.out al cl _ hon.out _ _ ⟨bitK cd st q⟩ rfl rfl 1 rfl (by have := hbl.out; omega) ?_; intro a3 c3 w4 hi4 ho4 hg4 hf4)
              go_roundw
              case rel => exact ⟨j + 1, a3, c3, by omega, by rw [hbk.out, hn1.out]; simp, by go_num, by rw [hbk.out, hn1.out]; exact Lib.hid (hS2.out.in1 hi4 ho4 hg4 hf4)⟩
              case measure => (simp [intOf] <;> omega)
        · obtain rfl : j = n := by omega
          obtain ⟨φ2, hS3, hsl⟩ := hS2.out.frozen2
          have hS3 := Lib.hid hS3
          have hsl := Lib.hid hsl
          have r2 : wr.cell? ⟨br, 2, none⟩ = some (.slice ao (boxes fs es k).length co) := hS3.out.bx.cell 2
          have hbl := Lib.hid (boxes_len fs es k)
          go_wp2_with (at_builtin; refine wpList_app1F (α := List U32) rfl _ _ 128 rfl slB hS3.out.ow.inv ao co _ hS3.out.ow.o1 _ _ (boxK fs ss j) ⟨al, cl, rfl, hsl.out⟩ rfl 1 rfl (by have := hbl.out; omega) ?_; intro a3 c3 w4 hi4 ho4 hg4 hf4; have kf : w4.frozen? ⟨br, 2, none⟩ = false := (hS3.out.blk4 hg4).1.frz 2; have kc : w4.cell? ⟨br, 2, none⟩ = some (.slice ao (boxes fs es k).length co) := (hS3.out.blk4 hg4).1.cell 2)
          go_roundw
          case rel =>
            refine ⟨k + 1, φ2, a3, c3, by omega, by go_num, Lib.hid ?_⟩
            rw [hbs.out, hns.out]
            have := hS3.out.out1 hi4 ho4 hg4 hf4
            rw [List.length_append] at this
            exact this
          case measure => (simp [intOf] <;> omega)
    · obtain rfl : k = m := by omega
      go_wp2
      go_ret2
      obtain ⟨φ2, h1, h2⟩ := hS.out.fin s hn.out se hne.out
      exact ⟨φ2, h1, .inr ⟨hq.out, br, rfl, h2⟩⟩
end Go.Proofs.YtkfmadeeobalaaaDoor

namespace Go.Proofs.YtkfmadeeobalaaaDoor
open Go.RowKit
set_option linter.unusedVariables false

/-- Rules that are right, in the frozen heap. -/
structure RulV (φ : Phi) (br : Nat) (fs : List Fld) (es : List Edt) (n m : Nat) (a : Option Addr) (cap : Nat) (ae : Option Addr) (ce : Nat) (ab : Option Addr) (cb : Nat) : Prop where
  bk : φ br = some (.cells #[.slice a n cap, .slice ae m ce, .slice ab m cb] 130 (0, 0))
  fv : SlV φ a cap fs
  ev : SlV φ ae ce es
  bv : SlV φ ab cb (boxes fs es m)
  ok : PlOk fs es n m
theorem RulF.open_ {φ : Phi} {br : Nat} {fs : List Fld} {es : List Edt} (h : RulF φ br fs es) (h0 : planF fs es = 0) {n m : Nat} (hn : fs.length = n) (hm : es.length = m) : ∃ a cap ae ce ab cb, RulV φ br fs es n m a cap ae ce ab cb := by
  obtain ⟨a, n', cap, ae, m', ce, ab, cb, h1, h2, h3, h4, h5, h6⟩ := h
  obtain rfl : n' = n := by omega
  obtain rfl : m' = m := by omega
  have := planF_zero h0
  rw [h3, h5] at this
  exact ⟨a, cap, ae, ce, ab, cb, h1, h2, h4, h6, this⟩
section
variable {φ φ' : Phi} {br : Nat} {fs : List Fld} {es : List Edt} {n m : Nat} {a : Option Addr} {cap : Nat} {ae : Option Addr} {ce : Nat} {ab : Option Addr} {cb : Nat}
theorem RulV.mono (h : RulV φ br fs es n m a cap ae ce ab cb) (hl : φ.le φ') : RulV φ' br fs es n m a cap ae ce ab cb := ⟨hl _ _ h.bk, h.fv.mono hl, h.ev.mono hl, h.bv.mono hl, h.ok⟩
theorem RulV.blk (h : RulV φ br fs es n m a cap ae ce ab cb) {w : World} (hφ : Fz φ w) : Blk w br #[.slice a n cap, .slice ae m ce, .slice ab m cb] 130 := hφ _ _ h.bk
end
theorem bitK_test {cd st : List Int} (k : Nat) : ∀ q, (bitK cd st q).testBit k = decide (∃ i, i < q ∧ cd.idxOf (st.getD i 0) = k)
  | 0 => by simp [bitK]
  | q + 1 => by
    rw [bitK, Nat.testBit_or, bitK_test k q, Nat.testBit_two_pow, Bool.eq_iff_iff]
    simp only [Bool.or_eq_true, decide_eq_true_eq]
    constructor
    · rintro (⟨i, h1, h2⟩ | h)
      · exact ⟨i, by omega, h2⟩
      · exact ⟨q, by omega, h⟩
    · rintro ⟨i, h1, h2⟩
      by_cases e : i = q
      · subst e; exact .inr h2
      · exact .inl ⟨i, by omega, h2⟩
theorem idxOf_eq {cd : List Int} {x y : Int} (hx : x ∈ cd) (hy : y ∈ cd) (h : cd.idxOf x = cd.idxOf y) : x = y := by
  have e1 := List.getElem_idxOf (List.idxOf_lt_length_of_mem hx)
  have e2 := List.getElem_idxOf (List.idxOf_lt_length_of_mem hy)
  rw [← e1, ← e2]
  simp only [h]
theorem bit_in {cd st : List Int} (hs : ∀ i, i < st.length → st.getD i 0 ∈ cd) {x : Int} (hx : x ∈ cd) : bitK cd st st.length / 2 ^ cd.idxOf x % 2 = if x ∈ st then 1 else 0 := by
  have h := bitK_test (cd := cd) (st := st) (cd.idxOf x) st.length
  rw [Nat.testBit_eq_decide_div_mod_eq] at h
  have e : (∃ i, i < st.length ∧ cd.idxOf (st.getD i 0) = cd.idxOf x) ↔ x ∈ st := by
    constructor
    · rintro ⟨i, h1, h2⟩
      rw [← idxOf_eq (hs i h1) hx h2, getD_elem0 _ _ _ h1]
      exact List.getElem_mem _
    · intro hm
      obtain ⟨i, hi, he⟩ := List.getElem_of_mem hm
      exact ⟨i, hi, by rw [getD_elem0 _ _ _ hi, he]⟩
  have h3 : bitK cd st st.length / 2 ^ cd.idxOf x % 2 < 2 := Nat.mod_lt _ (by decide)
  by_cases hm : x ∈ st
  · rw [if_pos hm]
    have := e.2 hm
    rw [decide_eq_true this] at h
    simpa using h
  · rw [if_neg hm]
    rw [decide_eq_false (fun k => hm (e.1 k))] at h
    have := of_decide_eq_false h
    omega
theorem bits_test {v k : Nat} (hv : v < 4294967296) (hk : k < 32) : bits .and .u32 ((v : Int) / 2 ^ k) 1 = ((v / 2 ^ k % 2 : Nat) : Int) := by
  have e : ((v : Int) / 2 ^ k) = ((v / 2 ^ k : Nat) : Int) := by simp
  rw [e]
  exact bits_and1 (Nat.lt_of_le_of_lt (Nat.div_le_self _ _) hv)
/-- A record has a code of each set. -/
def hitB (ss : List (List Int)) (rec : List Int) (n : Nat) : Bool := (List.range n).all (fun i => decide (rec.getD i 0 ∈ ss.getD i []))
theorem hitB_true {ss : List (List Int)} {rec : List Int} {n : Nat} (h : ∀ i, i < n → rec.getD i 0 ∈ ss.getD i []) : hitB ss rec n = true := by
  unfold hitB; rw [List.all_eq_true]; intro i hi; exact decide_eq_true (h i (List.mem_range.1 hi))
theorem hitB_false {ss : List (List Int)} {rec : List Int} {n i : Nat} (hi : i < n) (h : ¬ rec.getD i 0 ∈ ss.getD i []) : hitB ss rec n = false := by
  unfold hitB; rw [List.all_eq_false]; exact ⟨i, List.mem_range.2 hi, by simpa using h⟩
theorem boxK_get {fs : List Fld} {ss : List (List Int)} {n k : Nat} (h : k < n) : (boxK fs ss n).getD k u320 = ⟨bitK (fs.getD k fld0).2.1 (ss.getD k []) (ss.getD k []).length⟩ := by
  rw [getD_elem0 _ _ _ (by rw [boxK_len]; exact h)]; unfold boxK; simp
theorem boxes_get {fs : List Fld} {es : List Edt} {m k : Nat} (h : k < m) : (boxes fs es m).getD k [] = boxK fs (es.getD k edt0).2 (es.getD k edt0).2.length := by
  rw [getD_elem0 _ _ _ (by rw [boxes_len]; exact h)]; unfold boxes; simp
set_option maxHeartbeats 1000000 in
theorem has_any
  {φ : Phi} {br : Nat} {fs : List Fld} {es : List Edt} {n m : Nat} {a : Option Addr} {cap : Nat} {ae : Option Addr} {ce : Nat} {ab : Option Addr} {cb : Nat} (R : RulV φ br fs es n m a cap ae ce ab cb)
    (w : World) (hφ : Fz φ w) (j : Nat) (hj : j < m) (ss : List (List Int)) (hss : Hid ((es.getD j edt0).2 = ss)) (a1 : Option Addr) (c1 : Nat) (sb : SlV φ a1 c1 (boxK fs ss n)) (a2 : Option Addr) (c2 : Nat) (rec : List Int) (sr : SlV φ a2 c2 rec) (hrl : Hid (rec.length = n)) {b : Bool} (hb : Hid (hitB ss rec n = b)) :
    Calls Tryd.prog 85 #[.pointer (some ⟨br, 0, none⟩), .slice a1 n c1, .slice a2 n c2] w (fun e w' => e = .returned (.bool b) ∧ w = w') := by
  have r0 : w.cell? ⟨br, 0, none⟩ = some (.slice a n cap) := (R.blk hφ).cell 0
  have hfl := Lib.hid R.ok.len
  have hset := Lib.hid (R.ok.edt j hj)
  rw [hss.out] at hset
  have hn12 := R.ok.pos
  have hcd20 := Lib.hid (fun i (hi : i < n) => (fieldF_zero (fldBad_zero (R.ok.fld i hi)).2.2).2.1)
  have hbl := Lib.hid (boxK_len fs ss n)
  go_enter Tryd.func85, Tryd.ntmps85
  go_wp2
  go_loop [12] (fun i => ∃ k : Nat, k ≤ n ∧ i = .int .i64 k ∧ Hid (∀ i, i < k → rec.getD i 0 ∈ ss.getD i [])) (fun i => n - (intOf i).toNat)
  case atStart => exact ⟨0, Nat.zero_le _, rfl, Lib.hid (fun i hi => by omega)⟩
  case round =>
    obtain ⟨k, hk, rfl, hok⟩ := hrel
    by_cases hlt : k < n
    · obtain ⟨b1, o1, rfl, f1⟩ := sr.intsD hrl hlt
      have d1 := (f1 k hlt w hφ).2
      obtain ⟨b2, o2, ha, f2⟩ := R.fv.fldD hfl hlt
      obtain ⟨a3, c3, sf, f2⟩ := f2 k hlt
      have d2 := (f2 w hφ).2.2.1
      obtain ⟨b3, o3, rfl, f3⟩ := sb.u32D hbl hlt
      have d3 := (f3 k hlt w hφ).2
      rw [boxK_get hlt] at d3
      subst ha
      have hs0 := Lib.hid (setF_zero (hset.out.2 k hlt)).2
      have hcl : Hid ((fs.getD k fld0).2.1.length ≤ 20) := Lib.hid (hcd20.out k hlt)
      have HF : Hid (¬ rec.getD k 0 ∈ ss.getD k [] → b = false) := Lib.hid (fun h => hb.out.symm.trans (hitB_false hlt h))
      have HN : Hid (rec.getD k 0 ∈ ss.getD k [] → ∀ i, i < k + 1 → rec.getD i 0 ∈ ss.getD i []) := Lib.hid (fun h i hi => by
        by_cases e : i = k
        · subst e; exact h
        · exact hok.out i (by omega))
      clear f1 f2 f3
      generalize rec.getD k 0 = x at *
      generalize ss.getD k [] = st at *
      generalize (fs.getD k fld0).2.1 = cd at *
      obtain ⟨n2, hn2⟩ : ∃ n2, Hid (cd.length = n2) := ⟨_, Lib.hid rfl⟩
      rw [hn2.out] at d2
      have e3 := sf.capn
      have e4 := sf.capm
      rw [hn2.out] at e3
      unfold maxLen at e4
      by_cases hm : x ∈ cd
      case neg =>
        have hix : Hid (idI cd x = -1) := Lib.hid (by rw [idI, if_neg hm])
        have hr : Hid (b = false) := Lib.hid (HF.out (fun h => by
          obtain ⟨i, hi, he⟩ := List.getElem_of_mem h
          have := hs0.out i hi
          rw [getD_elem0 _ _ _ hi, he] at this
          exact hm this))
        clear hm
        go_wp2_with fail
        refine (Index_ex n2 a3 c3 cd x w φ hφ sf hn2 (by omega) hix.out).mono ?_
        rintro e w' ⟨rfl, rfl⟩
        go_wp2
        go_ret
        exact ⟨ret_bool hr.out.symm, rfl⟩
      case pos =>
        have hix : Hid (idI cd x = ((cd.idxOf x : Nat) : Int)) := Lib.hid (by rw [idI, if_pos hm])
        have hi20 : cd.idxOf x < 20 := Nat.lt_of_lt_of_le (List.idxOf_lt_length_of_mem hm) hcl.out
        have hlt2 : Hid (bitK cd st st.length < 1048576) := Lib.hid (bitK_lt hcl.out hs0.out)
        have hbt := bits_test (v := bitK cd st st.length) (k := cd.idxOf x) (by have := hlt2.out; omega) (by omega)
        rw [bit_in hs0.out hm] at hbt
        generalize cd.idxOf x = ix at *
        generalize bitK cd st st.length = v at *
        by_cases hx : x ∈ st
        · rw [if_pos hx] at hbt
          have hbb : (bits .and .u32 ((v : Int) / 2 ^ ix) 1 == 0) = false := by rw [hbt]; rfl
          have HX := Lib.hid hx
          clear hbt hx hm
          go_wp2_with fail
          refine (Index_ex n2 a3 c3 cd x w φ hφ sf hn2 (by omega) hix.out).mono ?_
          rintro e w' ⟨rfl, rfl⟩
          go_wp2
          go_round
          case rel => exact ⟨k + 1, by omega, by go_num, Lib.hid (HN.out HX.out)⟩
          case measure => (simp [intOf] <;> omega)
        · rw [if_neg hx] at hbt
          have hbb : (bits .and .u32 ((v : Int) / 2 ^ ix) 1 == 0) = true := by rw [hbt]; rfl
          have HX := Lib.hid hx
          clear hbt hx hm
          go_wp2_with fail
          refine (Index_ex n2 a3 c3 cd x w φ hφ sf hn2 (by omega) hix.out).mono ?_
          rintro e w' ⟨rfl, rfl⟩
          go_wp2
          go_ret
          exact ⟨ret_bool (HF.out HX.out).symm, rfl⟩
    · obtain rfl : k = n := by omega
      go_wp2
      go_ret
      exact ⟨ret_bool ((hitB_true hok.out).symm.trans hb.out), rfl⟩
/-- The numbers of the edits that a record fails. -/
def failL (es : List Edt) (rec : List Int) (n : Nat) (k : Nat) : List Int := ((List.range k).filter (fun j : Nat => hitB (es.getD j edt0).2 rec n)).map (fun j : Nat => (j : Int))
theorem failL_t {es : List Edt} {rec : List Int} {n k : Nat} (h : hitB (es.getD k edt0).2 rec n = true) : failL es rec n (k + 1) = failL es rec n k ++ [(k : Int)] := by
  have e : List.filter (fun j : Nat => hitB (es.getD j edt0).2 rec n) [k] = [k] := by rw [List.filter_cons_of_pos (by exact h)]; rfl
  unfold failL; rw [List.range_succ, List.filter_append, List.map_append, e]; rfl
theorem failL_f {es : List Edt} {rec : List Int} {n k : Nat} (h : hitB (es.getD k edt0).2 rec n = false) : failL es rec n (k + 1) = failL es rec n k := by
  have e : List.filter (fun j : Nat => hitB (es.getD j edt0).2 rec n) [k] = [] := by rw [List.filter_cons_of_neg (by rw [h]; simp)]; rfl
  unfold failL; rw [List.range_succ, List.filter_append, List.map_append, e]; simp
theorem failL_len (es : List Edt) (rec : List Int) (n k : Nat) : (failL es rec n k).length ≤ k := by
  unfold failL; rw [List.length_map]; exact Nat.le_trans (List.length_filter_le _ _) (by simp)
def OwnPost (xs : List Int) (φ : Phi) (w : World) (e : Ending) (w' : World) : Prop :=
  ∃ a cap, e = .returned (.slice a xs.length cap) ∧ Inv w.heap.size w φ φ w' ∧ Own w.heap.size φ w' 3 a cap xs
set_option maxHeartbeats 1000000 in
theorem fails_any
  {φ : Phi} {br : Nat} {fs : List Fld} {es : List Edt} {n m : Nat} {a : Option Addr} {cap : Nat} {ae : Option Addr} {ce : Nat} {ab : Option Addr} {cb : Nat} (R : RulV φ br fs es n m a cap ae ce ab cb)
    (w : World) (hφ : Fz φ w) (a2 : Option Addr) (c2 : Nat) (rec : List Int) (sr : SlV φ a2 c2 rec) (hrl : Hid (rec.length = n)) :
    Calls Tryd.prog 37 #[.pointer (some ⟨br, 0, none⟩), .slice a2 n c2] w (OwnPost (failL es rec n m) φ w) := by
  have r2 : w.cell? ⟨br, 2, none⟩ = some (.slice ab m cb) := (R.blk hφ).cell 2
  have hm60 := R.ok.cnt
  have hbl := Lib.hid (boxes_len fs es m)
  have hed := Lib.hid R.ok.edt
  have hSt : Hid (Inv w.heap.size w φ φ w ∧ Own w.heap.size φ w 3 none 0 (failL es rec n 0)) := Lib.hid ⟨Inv.start hφ, Own.nil _ _ _ _⟩
  go_enter Tryd.func37, Tryd.ntmps37
  go_wp2
  clear r2
  go_loopw [5, 13] (fun sl i wr => ∃ (k : Nat) (ao : Option Addr) (co : Nat), k ≤ m ∧ sl = .slice ao (failL es rec n k).length co ∧ i = .int .i64 k ∧ Hid (Inv w.heap.size w φ φ wr ∧ Own w.heap.size φ wr 3 ao co (failL es rec n k))) (fun _ i _ => m - (intOf i).toNat)
  case atStart => exact ⟨0, none, 0, Nat.zero_le _, rfl, rfl, hSt⟩
  case round =>
    clear hSt
    obtain ⟨k, ao, co, hk, rfl, rfl, hS⟩ := hrel
    by_cases hlt : k < m
    · obtain ⟨b1, o1, ha, f1⟩ := R.bv.lists hbl hlt
      obtain ⟨a3, c3, s3, f1⟩ := f1 k hlt
      have d1 := (f1 wr hS.out.1.fz).2
      have hsn := hed.out k hlt
      rw [boxes_get hlt] at d1 s3
      rw [boxK_len] at d1
      rw [hsn.1] at d1 s3
      subst ha
      have hl := Lib.hid (failL_len es rec n k)
      obtain ⟨o, ho⟩ : ∃ o, Hid (hitB (es.getD k edt0).2 rec n = o) := ⟨_, Lib.hid rfl⟩
      clear f1 hsn
      cases o
      case true =>
        have hin := hS.out.1
        have hon := hS.out.2
        go_wp2_with (first
          | (go_at_call 85; refine (has_any R wr hin.fz k hlt _ (Lib.hid rfl) a3 c3 s3 a2 c2 rec sr hrl ho).mono ?_; rintro e w' ⟨rfl, rfl⟩)
          | (at_builtin; refine wpList_app1 (α := Int) rfl _ _ 32 rfl slI hin ao co _ hon _ _ (k : Int) rfl rfl 1 rfl (by have := hl.out; omega) ?_; intro a4 c4 w4 hi4 ho4 hg4))
        go_roundw
        case rel => exact ⟨k + 1, a4, c4, by omega, by rw [failL_t ho.out]; simp, by go_num, by rw [failL_t ho.out]; exact Lib.hid ⟨hi4, ho4⟩⟩
        case measure => (simp [intOf] <;> omega)
      case false =>
        go_wp2_with (go_at_call 85; refine (has_any R wr hS.out.1.fz k hlt _ (Lib.hid rfl) a3 c3 s3 a2 c2 rec sr hrl ho).mono ?_; rintro e w' ⟨rfl, rfl⟩)
        go_roundw
        case rel => exact ⟨k + 1, ao, co, by omega, by rw [failL_f ho.out], by go_num, by rw [failL_f ho.out]; exact hS⟩
        case measure => (simp [intOf] <;> omega)
    · obtain rfl : k = m := by omega
      go_wp2
      go_ret
      exact ⟨ao, co, rfl, hS.out.1, hS.out.2⟩
/-- All values are valid. -/
def validB (fs : List Fld) (rec : List Int) (n : Nat) : Bool := (List.range n).all (fun i => decide (rec.getD i 0 ∈ (fs.getD i fld0).2.1))
theorem validB_true {fs : List Fld} {rec : List Int} {n : Nat} (h : ∀ i, i < n → rec.getD i 0 ∈ (fs.getD i fld0).2.1) : validB fs rec n = true := by
  unfold validB; rw [List.all_eq_true]; intro i hi; exact decide_eq_true (h i (List.mem_range.1 hi))
theorem validB_false {fs : List Fld} {rec : List Int} {n i : Nat} (hi : i < n) (h : ¬ rec.getD i 0 ∈ (fs.getD i fld0).2.1) : validB fs rec n = false := by
  unfold validB; rw [List.all_eq_false]; exact ⟨i, List.mem_range.2 hi, by simpa using h⟩
set_option maxHeartbeats 1000000 in
theorem valid_any
  {φ : Phi} {br : Nat} {fs : List Fld} {es : List Edt} {n m : Nat} {a : Option Addr} {cap : Nat} {ae : Option Addr} {ce : Nat} {ab : Option Addr} {cb : Nat} (R : RulV φ br fs es n m a cap ae ce ab cb)
    (w : World) (hφ : Fz φ w) (a2 : Option Addr) (c2 : Nat) (rec : List Int) (sr : SlV φ a2 c2 rec) (hrl : Hid (rec.length = n)) {b : Bool} (hb : Hid (validB fs rec n = b)) :
    Calls Tryd.prog 69 #[.pointer (some ⟨br, 0, none⟩), .slice a2 n c2] w (fun e w' => e = .returned (.bool b) ∧ w = w') := by
  have r0 : w.cell? ⟨br, 0, none⟩ = some (.slice a n cap) := (R.blk hφ).cell 0
  have hfl := Lib.hid R.ok.len
  have hn12 := R.ok.pos
  go_enter Tryd.func69, Tryd.ntmps69
  go_wp2
  go_loop [9] (fun i => ∃ k : Nat, k ≤ n ∧ i = .int .i64 k ∧ Hid (∀ i, i < k → rec.getD i 0 ∈ (fs.getD i fld0).2.1)) (fun i => n - (intOf i).toNat)
  case atStart => exact ⟨0, Nat.zero_le _, rfl, Lib.hid (fun i hi => by omega)⟩
  case round =>
    obtain ⟨k, hk, rfl, hok⟩ := hrel
    by_cases hlt : k < n
    · obtain ⟨b1, o1, rfl, f1⟩ := sr.intsD hrl hlt
      have d1 := (f1 k hlt w hφ).2
      obtain ⟨b2, o2, ha, f2⟩ := R.fv.fldD hfl hlt
      obtain ⟨a3, c3, sf, f2⟩ := f2 k hlt
      have d2 := (f2 w hφ).2.2.1
      subst ha
      have HF : Hid (¬ rec.getD k 0 ∈ (fs.getD k fld0).2.1 → b = false) := Lib.hid (fun h => hb.out.symm.trans (validB_false hlt h))
      have HN : Hid (rec.getD k 0 ∈ (fs.getD k fld0).2.1 → ∀ i, i < k + 1 → rec.getD i 0 ∈ (fs.getD i fld0).2.1) := Lib.hid (fun h i hi => by
        by_cases e : i = k
        · subst e; exact h
        · exact hok.out i (by omega))
      clear f1 f2
      generalize rec.getD k 0 = x at *
      generalize (fs.getD k fld0).2.1 = cd at *
      obtain ⟨n2, hn2⟩ : ∃ n2, Hid (cd.length = n2) := ⟨_, Lib.hid rfl⟩
      rw [hn2.out] at d2
      have e3 := sf.capn
      have e4 := sf.capm
      rw [hn2.out] at e3
      unfold maxLen at e4
      by_cases hm : x ∈ cd
      · have HM := Lib.hid hm
        clear hm
        go_wp2_with (go_at_call 81; refine (Contains_t n2 a3 c3 cd x w φ hφ sf hn2 (by omega) HM.out).mono ?_; rintro e w' ⟨rfl, rfl⟩)
        go_round
        case rel => exact ⟨k + 1, by omega, by go_num, Lib.hid (HN.out HM.out)⟩
        case measure => (simp [intOf] <;> omega)
      · have HM := Lib.hid hm
        clear hm
        go_wp2_with (go_at_call 81; refine (Contains_f n2 a3 c3 cd x w φ hφ sf hn2 (by omega) HM.out).mono ?_; rintro e w' ⟨rfl, rfl⟩)
        go_ret
        exact ⟨ret_bool (HF.out HM.out).symm, rfl⟩
    · obtain rfl : k = n := by omega
      go_wp2
      go_ret
      exact ⟨ret_bool ((validB_true hok.out).symm.trans hb.out), rfl⟩
/-- A record passes. -/
def passB (fs : List Fld) (es : List Edt) (rec : List Int) (n m : Nat) : Bool := validB fs rec n && decide ((failL es rec n m).length = 0)
def BoolB (b : Bool) (w : World) (e : Ending) (w' : World) : Prop := e = .returned (.bool b) ∧ Below w.heap.size w w'
theorem passes_any
  {φ : Phi} {br : Nat} {fs : List Fld} {es : List Edt} {n m : Nat} {a : Option Addr} {cap : Nat} {ae : Option Addr} {ce : Nat} {ab : Option Addr} {cb : Nat} (R : RulV φ br fs es n m a cap ae ce ab cb)
    (w : World) (hφ : Fz φ w) (a2 : Option Addr) (c2 : Nat) (rec : List Int) (sr : SlV φ a2 c2 rec) (hrl : Hid (rec.length = n)) {b : Bool} (hb : Hid (passB fs es rec n m = b)) :
    Calls Tryd.prog 25 #[.pointer (some ⟨br, 0, none⟩), .slice a2 n c2] w (BoolB b w) := by
  obtain ⟨v, hv⟩ : ∃ v, Hid (validB fs rec n = v) := ⟨_, Lib.hid rfl⟩
  cases v
  case false =>
    go_enter Tryd.func25, Tryd.ntmps25
    go_wp2_with (go_at_call 69; refine (valid_any R w hφ a2 c2 rec sr hrl hv).mono ?_; rintro e w' ⟨rfl, rfl⟩)
    go_ret
    exact ⟨ret_bool (by rw [← hb.out, passB, hv.out]; rfl), Below.refl _ _⟩
  case true =>
    obtain ⟨l, hl⟩ : ∃ l, Hid (failL es rec n m = l) := ⟨_, Lib.hid rfl⟩
    have hbb : Hid (b = decide (l.length = 0)) := Lib.hid (by rw [← hb.out, passB, hv.out, hl.out]; rfl)
    go_enter Tryd.func25, Tryd.ntmps25
    go_wp2_with (first
      | (go_at_call 69; refine (valid_any R w hφ a2 c2 rec sr hrl hv).mono ?_; rintro e w' ⟨rfl, rfl⟩)
      | (go_at_call 37; refine (fails_any R w hφ a2 c2 rec sr hrl).mono ?_; rintro e w' ⟨a5, c5, rfl, hi5, ho5⟩; rw [hl.out]))
    go_ret
    exact ⟨ret_bool (by rw [hbb.out, Bool.eq_iff_iff]; simp), hi5.bel⟩
/-- The error of a record. -/
def recBad (rec : List Int) (i : Nat) : Int := if outB (rec.getD i 0) 0 999 = true then 1 else 0
def recF (n : Nat) (rec : List Int) : Int := if rec.length ≠ n then 3 else scan (recBad rec) rec.length
theorem recordFault_any
  {φ : Phi} {br : Nat} {fs : List Fld} {es : List Edt} {n m : Nat} {a : Option Addr} {cap : Nat} {ae : Option Addr} {ce : Nat} {ab : Option Addr} {cb : Nat} (R : RulV φ br fs es n m a cap ae ce ab cb)
    (w : World) (hφ : Fz φ w) (nr : Nat) (a2 : Option Addr) (c2 : Nat) (rec : List Int) (sr : SlV φ a2 c2 rec) (hrl : Hid (rec.length = nr)) (hm : nr ≤ 9223372036854775807) :
    Calls Tryd.prog 34 #[.pointer (some ⟨br, 0, none⟩), .slice a2 nr c2] w (fun e w' => e = .returned (.int .i64 (recF n rec)) ∧ w = w') := by
  have r0 : w.cell? ⟨br, 0, none⟩ = some (.slice a n cap) := (R.blk hφ).cell 0
  have hn12 := R.ok.pos
  have hrf : Hid (recF n rec = if nr ≠ n then 3 else scan (recBad rec) nr) := Lib.hid (by rw [recF, hrl.out])
  by_cases hne : nr = n
  case neg =>
    have hb1 : ((nr : Int) != n) = true := by simp; omega
    have HNE := Lib.hid hne
    clear hne
    go_enter Tryd.func34, Tryd.ntmps34
    go_wp2
    go_ret
    exact ⟨ret_int (by rw [hrf.out, if_pos HNE.out]), rfl⟩
  subst hne
  have hb1 : ((nr : Int) != nr) = false := by simp
  go_enter Tryd.func34, Tryd.ntmps34
  go_wp2
  clear hb1
  go_loop [18] (fun i => ∃ k : Nat, k ≤ nr ∧ i = .int .i64 k ∧ Hid (∀ i, i < k → recBad rec i = 0)) (fun i => nr - (intOf i).toNat)
  case atStart => exact ⟨0, Nat.zero_le _, rfl, none_yet _⟩
  case round =>
    obtain ⟨k, hk, rfl, hok⟩ := hrel
    by_cases hlt : k < nr
    · obtain ⟨b1, o1, rfl, f1⟩ := sr.intsD hrl hlt
      have d1 := (f1 k hlt w hφ).2
      have hbad : Hid (recBad rec k = _) := Lib.hid (recBad.eq_1 rec k)
      clear f1
      generalize rec.getD k 0 = x at *
      obtain ⟨o, ho⟩ : ∃ o, Hid (outB x 0 999 = o) := ⟨_, Lib.hid rfl⟩
      cases o
      case true =>
        go_wp2_with (go_at_call 35; refine (outside_b _ _ _ _ ho.out).mono ?_; rintro e w' ⟨rfl, rfl⟩)
        go_ret
        exact ⟨ret_int (by rw [hrf.out, if_neg (by simp), scan_stop hok.out hlt (by rw [hbad.out, if_pos ho.out]; decide), hbad.out, if_pos ho.out]), rfl⟩
      case false =>
        go_wp2_with (go_at_call 35; refine (outside_b _ _ _ _ ho.out).mono ?_; rintro e w' ⟨rfl, rfl⟩)
        go_round
        case rel => exact ⟨k + 1, by omega, by go_num, next_ok hok (by rw [hbad.out, if_neg (by rw [ho.out]; simp)])⟩
        case measure => (simp [intOf] <;> omega)
    · obtain rfl : k = nr := by omega
      go_wp2
      go_ret
      exact ⟨ret_int (by rw [hrf.out, if_neg (by simp), scan_zero _ _ hok.out]), rfl⟩
end Go.Proofs.YtkfmadeeobalaaaDoor

namespace Go.Proofs.YtkfmadeeobalaaaDoor
open Go.RowKit
set_option linter.unusedVariables false

def WithPost (fs : List Fld) (es : List Edt) (rec : List Int) (φ : Phi) (w : World) (e : Ending) (w' : World) : Prop :=
  ∃ φ', Inv w.heap.size w φ φ' w' ∧ ((planF fs es ≠ 0 ∧ e = .returned (.tuple #[.pointer none, .int .i64 (planF fs es)])) ∨ (planF fs es = 0 ∧ ∃ br, e = .returned (.tuple #[.pointer (some ⟨br, 0, none⟩), .int .i64 (recF fs.length rec)]) ∧ RulF φ' br fs es))
/-- The records that have those of x outside of the free fields from number f on, in order. -/
def comps (fs : List Fld) (free : List Bool) : Nat → Nat → List Int → List (List Int)
  | 0, _, x => [x]
  | r + 1, f, x => if free.getD f false = true then (fs.getD f fld0).2.1.flatMap (fun c => comps fs free r (f + 1) (x.set f c)) else comps fs free r (f + 1) x
theorem comps_skip {fs : List Fld} {free : List Bool} {x : List Int} : ∀ {d r f : Nat}, (∀ i, f ≤ i → i < f + d → free.getD i false = false) → comps fs free (r + d) f x = comps fs free r (f + d) x
  | 0, r, f, _ => rfl
  | d + 1, r, f, h => by
    have h0 := h f (Nat.le_refl _) (by omega)
    have e : comps fs free (r + (d + 1)) f x = comps fs free (r + d) (f + 1) x := by
      show (if free.getD f false = true then _ else _) = _
      rw [h0, if_neg (by simp)]; rfl
    rw [e, comps_skip (d := d) (r := r) (f := f + 1) (fun i h1 h2 => h i (by omega) (by omega))]
    congr 1; omega
theorem comps_to {fs : List Fld} {free : List Bool} {x : List Int} {n f f' : Nat} (h1 : f ≤ f') (h2 : f' ≤ n) (h : ∀ i, f ≤ i → i < f' → free.getD i false = false) : comps fs free (n - f) f x = comps fs free (n - f') f' x := by
  have := comps_skip (fs := fs) (free := free) (x := x) (d := f' - f) (r := n - f') (f := f) (fun i a b => h i a (by omega))
  rw [show n - f' + (f' - f) = n - f by omega, show f + (f' - f) = f' by omega] at this
  exact this
/-- A visit of each, up to one that says that it is enough. -/
def foldU {σ α : Type} (V : α → σ → σ × Bool) : List α → σ → σ × Bool
  | [], s => (s, false)
  | x :: l, s => if (V x s).2 = true then ((V x s).1, true) else foldU V l (V x s).1
theorem foldU_append {σ α : Type} (V : α → σ → σ × Bool) : ∀ (l l' : List α) (s : σ), foldU V (l ++ l') s = if (foldU V l s).2 = true then ((foldU V l s).1, true) else foldU V l' (foldU V l s).1
  | [], l', s => by simp [foldU]
  | x :: l, l', s => by
    rw [List.cons_append, foldU, foldU]
    split
    · simp
    · exact foldU_append V l l' _
theorem foldU_one {σ α : Type} (V : α → σ → σ × Bool) (x : α) (s : σ) : foldU V [x] s = V x s := by
  rw [foldU, foldU]
  split
  · next h => exact Prod.ext rfl h.symm
  · next h => exact Prod.ext rfl (by simpa using h : (V x s).2 = false).symm
theorem drop_getD {α : Type} {d : α} {l : List α} {k : Nat} (h : k < l.length) : l.drop k = l.getD k d :: l.drop (k + 1) := by
  rw [getD_elem0 _ _ _ h]; exact List.drop_eq_getElem_cons h
theorem SlV.boolsD {φ : Phi} {a : Option Addr} {cap : Nat} {xs : List Bool} (h : SlV φ a cap xs) {k n : Nat} (hn : Hid (xs.length = n)) (hk : k < n) :
    ∃ b off, a = some ⟨b, off, none⟩ ∧ ∀ k, k < n → ∀ w, Fz φ w → b < w.heap.size ∧ w.cell? ⟨b, off + k, none⟩ = some (.bool (xs.getD k false)) := by
  obtain ⟨b, off, ha, hc⟩ := h.cellsD false hn hk
  refine ⟨b, off, ha, fun k hk w hw => ?_⟩
  obtain ⟨cs, h1, hj⟩ := hc k hk
  cases h1
  have j0 := hj 0 (by simp)
  simp [Rep.size] at j0
  exact ⟨hw.lt j0, hw.cell j0⟩
end Go.Proofs.YtkfmadeeobalaaaDoor
