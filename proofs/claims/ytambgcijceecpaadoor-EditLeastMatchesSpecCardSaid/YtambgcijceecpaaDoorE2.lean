/- The walks of fieldFault, setFault, fieldsFault. Conditions: none beyond what the claim form gives. -/
import Derived.Test.YtambgcijceecpaaDoorE1
import Derived.Test.YtambgcijceecpaaDoorIdx
namespace Go.Proofs.YtambgcijceecpaaDoor
open Go.RowKit
set_option linter.unusedVariables false

abbrev Fld := ByteArray × List Int × Int
abbrev fld0 : Fld := (ByteArray.empty, [], 0)
theorem SlV.fldD {φ : Phi} {a : Option Addr} {cap : Nat} {xs : List Fld} (h : SlV φ a cap xs) {k n : Nat} (hn : Hid (xs.length = n)) (hk : k < n) :
    ∃ b off, a = some ⟨b, off, none⟩ ∧ ∀ k, k < n → ∃ ac cc, SlV φ ac cc (xs.getD k fld0).2.1 ∧ ∀ w, Fz φ w → b < w.heap.size ∧ w.cell? ⟨b, off + k * 3, none⟩ = some (.string (xs.getD k fld0).1) ∧ w.cell? ⟨b, off + k * 3 + 1, none⟩ = some (.slice ac (xs.getD k fld0).2.1.length cc) ∧ w.cell? ⟨b, off + k * 3 + 2, none⟩ = some (.int .i64 (xs.getD k fld0).2.2) := by
  obtain ⟨b, off, ha, hc⟩ := h.cellsD fld0 hn hk
  refine ⟨b, off, ha, fun k hk => ?_⟩
  obtain ⟨cs, ⟨c, d, rfl, h1, c2, d2, rfl, ⟨ac, cc, rfl, hs⟩, h3⟩, hj⟩ := hc k hk
  cases h1; cases h3
  refine ⟨ac, cc, hs, fun w hw => ?_⟩
  have j0 := hj 0 (by simp)
  have j1 := hj 1 (by simp)
  have j2 := hj 2 (by simp)
  simp [Rep.size] at j0 j1 j2
  exact ⟨hw.lt j0, hw.cell j0, hw.cell j1, hw.cell j2⟩
def codeBad (cs : List Int) (k : Nat) : Int := if outB (cs.getD k 0) 1 999 = true then 1 else if 0 < k ∧ cs.getD k 0 ≤ cs.getD (k - 1) 0 then 7 else 0
def fieldF (cs : List Int) (wt : Int) : Int := if cs.length = 0 then 9 else if 20 < cs.length then 2 else if scan (codeBad cs) cs.length ≠ 0 then scan (codeBad cs) cs.length else if outB wt 1 1000 = true then 1 else 0
theorem fieldF_at {cs : List Int} {wt : Int} {n k : Nat} (hn : Hid (cs.length = n)) (h0 : 0 < n) (hl : n ≤ 20) (hk : k < n) (h : Hid (∀ i, i < k → codeBad cs i = 0)) {c : Int} (hc : codeBad cs k = c) (hc0 : c ≠ 0) : fieldF cs wt = c := by
  have hs : scan (codeBad cs) n = c := by rw [scan_stop h.out hk (by rw [hc]; exact hc0), hc]
  rw [fieldF, hn.out, if_neg (by omega), if_neg (by omega), hs, if_pos hc0]
theorem fieldF_ok {cs : List Int} {wt : Int} {n : Nat} (hn : Hid (cs.length = n)) (h0 : 0 < n) (hl : n ≤ 20) (h : Hid (∀ i, i < n → codeBad cs i = 0)) : fieldF cs wt = if outB wt 1 1000 = true then 1 else 0 := by
  rw [fieldF, hn.out, if_neg (by omega), if_neg (by omega), scan_zero _ _ h.out, if_neg (by simp)]
set_option maxHeartbeats 1000000 in
theorem fieldFault_any (nm : ByteArray) (n : Nat) (a : Option Addr) (cap : Nat) (cs : List Int) (wt : Int) (w : World) (φ : Phi) (hφ : Fz φ w) (s : SlV φ a cap cs) (hn : Hid (cs.length = n)) (hm : n ≤ 9223372036854775807) :
    Calls Tryd.prog 87 #[.agg #[.string nm, .slice a n cap, .int .i64 wt]] w (IntB (fieldF cs wt) w) := by
  have hbel : Below w.heap.size w (w.alloc (.cells #[.string nm, .slice a n cap, .int .i64 wt] 87)) := (Below.refl _ _).alloc (Nat.le_refl _) _
  by_cases z : n = 0
  · have Z := Lib.hid z
    have zb : ((n : Int) == 0) = true := by simp [z]
    clear z
    go_enter Tryd.func87, Tryd.ntmps87
    go_wp2
    go_ret
    exact ⟨ret_int (by rw [fieldF, hn.out, if_pos Z.out]), hbel⟩
  have zb : ((n : Int) == 0) = false := by simp; omega
  by_cases hl : 20 < n
  · go_enter Tryd.func87, Tryd.ntmps87
    go_wp2
    go_ret
    exact ⟨ret_int (by rw [fieldF, hn.out, if_neg z, if_pos hl]), hbel⟩
  have h0 : 0 < n := by omega
  have z := Lib.hid z
  have HB := Lib.hid hbel
  have e1 : (w.alloc (.cells #[.string nm, .slice a n cap, .int .i64 wt] 87)).cell? ⟨w.heap.size, 1, none⟩ = some (.slice a n cap) := box_at 1
  have e2 : (w.alloc (.cells #[.string nm, .slice a n cap, .int .i64 wt] 87)).cell? ⟨w.heap.size, 2, none⟩ = some (.int .i64 wt) := box_at 2
  go_enter Tryd.func87, Tryd.ntmps87
  go_wp2
  clear zb hbel
  have hF := Lib.hid (hφ.below HB.out)
  generalize w.alloc (.cells #[.string nm, .slice a n cap, .int .i64 wt] 87) = wx at *
  generalize hbx : w.heap.size = bx at *
  replace hbx := Lib.hid hbx
  go_loop [16] (fun i => ∃ k : Nat, k ≤ n ∧ i = .int .i64 k ∧ Hid (∀ i, i < k → codeBad cs i = 0)) (fun i => n - (intOf i).toNat)
  case atStart => exact ⟨0, Nat.zero_le _, rfl, none_yet _⟩
  case round =>
    obtain ⟨k, hk, rfl, hok⟩ := hrel
    by_cases hlt : k < n
    · obtain ⟨b, off, rfl, f⟩ := s.intsD hn hlt
      obtain ⟨hb, c1⟩ := f k hlt wx hF.out
      have HP := Lib.hid (fun h : 0 < k => (f (k - 1) (by omega) wx hF.out).2)
      have hbad : Hid (codeBad cs k = _) := Lib.hid (codeBad.eq_1 cs k)
      clear f
      generalize cs.getD k 0 = m at *
      generalize cs.getD (k - 1) 0 = p at *
      obtain ⟨o1, ho1⟩ : ∃ o, Hid (outB m 1 999 = o) := ⟨_, Lib.hid rfl⟩
      cases o1
      case true =>
        go_wp2_with (go_at_call 36; refine (outside_b _ _ _ _ ho1.out).mono ?_; rintro e w' ⟨rfl, rfl⟩)
        go_ret
        exact ⟨ret_int (fieldF_at hn h0 (by omega) hlt hok (by rw [hbad.out, if_pos ho1.out]) (by decide)).symm, by rw [hbx.out]; exact HB.out⟩
      by_cases h3 : 0 < k
      · have hpp := HP.out h3
        have hix : 0 ≤ (k : Int) - 1 := by omega
        have hix2 : (k : Int) - 1 < n := by omega
        have hto : ((k : Int) - 1).toNat = k - 1 := by omega
        go_wp2_with (go_at_call 36; refine (outside_b _ _ _ _ ho1.out).mono ?_; rintro e w' ⟨rfl, rfl⟩)
        all_goals clear hto
        all_goals first
          | (go_ret; exact ⟨ret_int (fieldF_at hn h0 (by omega) hlt hok (by rw [hbad.out, if_neg (by rw [ho1.out]; simp), if_pos (by omega)]) (by decide)).symm, by rw [hbx.out]; exact HB.out⟩)
          | (go_round
             case rel => exact ⟨k + 1, by omega, by go_num, next_ok hok (by rw [hbad.out, if_neg (by rw [ho1.out]; simp), if_neg (by omega)])⟩
             case measure => simp [intOf]; omega)
      · have h3i : decide ((0 : Int) < k) = false := decide_eq_false (by omega)
        go_wp2_with (go_at_call 36; refine (outside_b _ _ _ _ ho1.out).mono ?_; rintro e w' ⟨rfl, rfl⟩)
        go_round
        case rel => exact ⟨k + 1, by omega, by go_num, next_ok hok (by rw [hbad.out, if_neg (by rw [ho1.out]; simp), if_neg (by omega)])⟩
        case measure => simp [intOf]; omega
    · obtain rfl : k = n := by omega
      obtain ⟨o1, ho1⟩ : ∃ o, Hid (outB wt 1 1000 = o) := ⟨_, Lib.hid rfl⟩
      have e := Lib.hid (fieldF_ok (wt := wt) hn h0 (by omega) hok)
      cases o1
      all_goals
        go_wp2_with (go_at_call 36; refine (outside_b _ _ _ _ ho1.out).mono ?_; rintro e w' ⟨rfl, rfl⟩)
        go_ret
        exact ⟨ret_int (by rw [e.out, ho1.out]; rfl), by rw [hbx.out]; exact HB.out⟩

def setBad (set codes : List Int) (k : Nat) : Int := if decide (set.getD k 0 ∈ codes) = false then 1 else if 0 < k ∧ set.getD k 0 ≤ set.getD (k - 1) 0 then 7 else 0
def setF (set codes : List Int) : Int := if set.length = 0 then 9 else scan (setBad set codes) set.length
theorem setF_at {set codes : List Int} {n k : Nat} (hn : Hid (set.length = n)) (h0 : 0 < n) (hk : k < n) (h : Hid (∀ i, i < k → setBad set codes i = 0)) {c : Int} (hc : setBad set codes k = c) (hc0 : c ≠ 0) : setF set codes = c := by
  rw [setF, hn.out, if_neg (by omega), scan_stop h.out hk (by rw [hc]; exact hc0), hc]
theorem setF_ok {set codes : List Int} {n : Nat} (hn : Hid (set.length = n)) (h0 : 0 < n) (h : Hid (∀ i, i < n → setBad set codes i = 0)) : setF set codes = 0 := by
  rw [setF, hn.out, if_neg (by omega), scan_zero _ _ h.out]
theorem Contains_b (n : Nat) (a : Option Addr) (cap : Nat) (xs : List Int) (x : Int) (w : World) (φ : Phi) (hφ : Fz φ w) (s : SlV φ a cap xs) (hn : Hid (xs.length = n)) (hm : n ≤ 9223372036854775807) {b : Bool} (h : decide (x ∈ xs) = b) :
    Calls Tryd.prog 42 #[.slice a n cap, .int .i64 x] w fun e w' => e = .returned (.bool b) ∧ w = w' := by
  have := Contains_any n a cap xs x w φ hφ s hn hm; rwa [h] at this
set_option maxHeartbeats 1000000 in
theorem setFault_any (n : Nat) (a : Option Addr) (cap : Nat) (set : List Int) (n2 : Nat) (a2 : Option Addr) (cap2 : Nat) (codes : List Int) (w : World) (φ : Phi) (hφ : Fz φ w) (s : SlV φ a cap set) (hn : Hid (set.length = n)) (hm : n ≤ 9223372036854775807) (s2 : SlV φ a2 cap2 codes) (hn2 : Hid (codes.length = n2)) (hm2 : n2 ≤ 9223372036854775807) :
    Calls Tryd.prog 61 #[.slice a n cap, .slice a2 n2 cap2] w (fun e w' => e = .returned (.int .i64 (setF set codes)) ∧ w = w') := by
  by_cases z : n = 0
  · have Z := Lib.hid z
    have zb : ((n : Int) == 0) = true := by simp [z]
    clear z
    go_enter Tryd.func61, Tryd.ntmps61
    go_wp2
    go_ret
    exact ⟨ret_int (by rw [setF, hn.out, if_pos Z.out]), rfl⟩
  have zb : ((n : Int) == 0) = false := by simp; omega
  have h0 : 0 < n := by omega
  have z := Lib.hid z
  go_enter Tryd.func61, Tryd.ntmps61
  go_wp2
  clear zb
  go_loop [12] (fun i => ∃ k : Nat, k ≤ n ∧ i = .int .i64 k ∧ Hid (∀ i, i < k → setBad set codes i = 0)) (fun i => n - (intOf i).toNat)
  case atStart => exact ⟨0, Nat.zero_le _, rfl, none_yet _⟩
  case round =>
    obtain ⟨k, hk, rfl, hok⟩ := hrel
    by_cases hlt : k < n
    · obtain ⟨b, off, rfl, f⟩ := s.intsD hn hlt
      obtain ⟨hb, c1⟩ := f k hlt w hφ
      have HP := Lib.hid (fun h : 0 < k => (f (k - 1) (by omega) w hφ).2)
      have hbad : Hid (setBad set codes k = _) := Lib.hid (setBad.eq_1 set codes k)
      clear f
      generalize set.getD k 0 = m at *
      generalize set.getD (k - 1) 0 = p at *
      obtain ⟨o1, ho1⟩ : ∃ o, Hid (decide (m ∈ codes) = o) := ⟨_, Lib.hid rfl⟩
      cases o1
      case false =>
        go_wp2_with (go_at_call 42; refine (Contains_b n2 a2 cap2 codes m _ φ hφ s2 hn2 hm2 ho1.out).mono ?_; rintro e w' ⟨rfl, rfl⟩)
        go_ret
        exact ⟨ret_int (setF_at hn h0 hlt hok (by rw [hbad.out, if_pos ho1.out]) (by decide)).symm, rfl⟩
      by_cases h3 : 0 < k
      · have hpp := HP.out h3
        have hix : 0 ≤ (k : Int) - 1 := by omega
        have hix2 : (k : Int) - 1 < n := by omega
        have hto : ((k : Int) - 1).toNat = k - 1 := by omega
        go_wp2_with (go_at_call 42; refine (Contains_b n2 a2 cap2 codes m _ φ hφ s2 hn2 hm2 ho1.out).mono ?_; rintro e w' ⟨rfl, rfl⟩)
        all_goals clear hto
        all_goals first
          | (go_ret; exact ⟨ret_int (setF_at hn h0 hlt hok (by rw [hbad.out, if_neg (by rw [ho1.out]; simp), if_pos (by omega)]) (by decide)).symm, rfl⟩)
          | (go_round
             case rel => exact ⟨k + 1, by omega, by go_num, next_ok hok (by rw [hbad.out, if_neg (by rw [ho1.out]; simp), if_neg (by omega)])⟩
             case measure => simp [intOf]; omega)
      · have h3i : decide ((0 : Int) < k) = false := decide_eq_false (by omega)
        go_wp2_with (go_at_call 42; refine (Contains_b n2 a2 cap2 codes m _ φ hφ s2 hn2 hm2 ho1.out).mono ?_; rintro e w' ⟨rfl, rfl⟩)
        go_round
        case rel => exact ⟨k + 1, by omega, by go_num, next_ok hok (by rw [hbad.out, if_neg (by rw [ho1.out]; simp), if_neg (by omega)])⟩
        case measure => simp [intOf]; omega
    · obtain rfl : k = n := by omega
      go_wp2
      go_ret
      exact ⟨ret_int (setF_ok hn h0 hok).symm, rfl⟩
end Go.Proofs.YtambgcijceecpaaDoor
