/- The walks of the reference's within, checkWeight, checkNumbers. Conditions: the library's table of powers of ten reads as it was laid. The walk of the reference's checkWeight. Conditions: the library's table of powers of ten reads as it was laid. The walk of the reference's checkAlone. Conditions: the library's table of powers of ten reads as it was laid. Conditions: none beyond what the claim form gives. -/
import Derived.Test.YtmlpjffnmkndoaaGreatDoorJA
import Derived.Test.YtmlpjffnmkndoaaGreatDoorJ3
namespace Go.Proofs.YtmlpjffnmkndoaaGreatDoor
open Go.RowKit
set_option linter.unusedVariables false
set_option linter.unusedSimpArgs false
theorem within9 (n lo hi : Int) (w : World) {b : Bool} (h : Hid (outB n lo hi = b)) :
  Calls Tryz.prog 67 #[.int .i64 n, .int .i64 lo, .int .i64 hi] w fun e w' => e = .returned (.bool (!b)) ∧ w = w' := by
 have hb := h.out
 subst hb
 clear h
 go_enter Tryz.func67, Tryz.ntmps67
 by_cases h : lo ≤ n
 ·go_wp2
  go_ret
  exact ⟨ret_bool (by unfold outB; rw [Bool.eq_iff_iff]; simp; omega), rfl⟩
 ·go_wp2
  go_ret
  exact ⟨ret_bool (by unfold outB; rw [Bool.eq_iff_iff]; simp; omega), rfl⟩
theorem numF_stop {x y z : Int} {k : Nat} (hk : k < 3) (h : outB ([x, y, z].getD k 0) 0 200 = true) : numF x y z = 1 := by
 unfold numF
 rcases k with _ | _ | _ | k
 ·simp at h; simp [h]
 ·simp at h; simp [h]
 ·simp at h; simp [h]
 ·omega
theorem numF_zero {x y z : Int} (h : ∀ i, i < 3 → (if outB ([x, y, z].getD i 0) 0 200 then 1 else 0 : Int) = 0) : numF x y z = 0 := by
 have h0 := h 0 (by decide)
 have h1 := h 1 (by decide)
 have h2 := h 2 (by decide)
 simp at h0 h1 h2
 unfold numF
 simp [h0, h1, h2]
set_option maxHeartbeats 1000000 in
theorem RcheckNumbers_any {s t : ByteArray} {m : Nat} {ar : Option Addr} {cr : Nat} {x y z : Int} {w : World} {φ : Phi} (hφ : Fz φ w) {f : Int} (hf : Hid (numF x y z = f)) :
  Calls Tryz.prog 68 #[.agg #[.string s, .string t, .slice ar m cr, .int .i64 x, .int .i64 y, .int .i64 z]] w (fun e w' => e = .returned (.int .i64 f) ∧ Below w.heap.size w w') := by
 have HI := Lib.hid ((Inv.start hφ).alloc (.cells #[.string s, .string t, .slice ar m cr, .int .i64 x, .int .i64 y, .int .i64 z] 76))
 have HK := Lib.hid (Blk.new w #[.string s, .string t, .slice ar m cr, .int .i64 x, .int .i64 y, .int .i64 z] 76)
 clear hφ
 go_enter Tryz.func68, Tryz.ntmps68
 go_upto_region 1 with fail
 generalize w.alloc (.cells #[.string s, .string t, .slice ar m cr, .int .i64 x, .int .i64 y, .int .i64 z] 76) = wx at *
 obtain ⟨bx, hbx⟩ : ∃ b, w.heap.size = b := ⟨_, rfl⟩
 rw [hbx] at HK ⊢
 have HBX := Lib.hid hbx
 rw [← HBX.out]
 rw [hbx]
 clear hbx
 have x3 : wx.cell? ⟨bx, 3, none⟩ = some (.int .i64 x) := HK.out.cell 3
 have x4 : wx.cell? ⟨bx, 4, none⟩ = some (.int .i64 y) := HK.out.cell 4
 have x5 : wx.cell? ⟨bx, 5, none⟩ = some (.int .i64 z) := HK.out.cell 5
 obtain ⟨φ1, hle, hi1, sx⟩ := SlV.lit (α := Int) HI.out.fz 3 (xs := [x, y, z]) (arr := #[.int .i64 x, .int .i64 y, .int .i64 z]) (by refine ⟨[.int .i64 x], [.int .i64 y, .int .i64 z], rfl, rfl, [.int .i64 y], [.int .i64 z], rfl, rfl, [.int .i64 z], [], rfl, rfl, rfl⟩) (by simp [maxLen])
 have HB1 := Lib.hid (HI.out.bel.trans (hi1.bel.mono HI.out.bel.size))
 have HF1 := Lib.hid hi1.fz
 have HSX := Lib.hid sx
 have hn3 : Hid (([x, y, z] : List Int).length = 3) := Lib.hid rfl
 have hst := Lib.hid (fun k (hk : k < 3) (h : outB ([x, y, z].getD k 0) 0 200 = true) => numF_stop hk h)
 have hze := Lib.hid (fun (h : ∀ i, i < 3 → (if outB ([x, y, z].getD i 0) 0 200 then 1 else 0 : Int) = 0) => numF_zero h)
 rw [hf.out] at hst hze
 clear hle hi1 sx hf
 go_wp2
 generalize wx.alloc (.cells #[.int .i64 x, .int .i64 y, .int .i64 z] 3) = wy at *
 generalize wx.heap.size = by_ at *
 clear x3 x4 x5 HI HK
 generalize hl3 : ([x, y, z] : List Int) = l3 at *
 rw [hn3.out] at HSX
 go_loop [13] (fun v => ∃ k : Nat, k ≤ 3 ∧ v = .int .i64 (k : Int) ∧ Hid (∀ i, i < k → (if outB (l3.getD i 0) 0 200 then 1 else 0 : Int) = 0)) (fun v => 3 - (intOf v).toNat)
 case atStart => exact ⟨0, Nat.zero_le _, rfl, none_yet _⟩
 case round =>
  obtain ⟨k, hk, rfl, hok⟩ := hrel
  by_cases hlt : k < 3
  ·have hlti : (k : Int) < 3 := by omega
   obtain ⟨b, off, hbe, fc⟩ := HSX.out.intsD hn3 hlt
   cases hbe
   have d1 := (fc k hlt wy HF1.out).2
   rw [Nat.zero_add] at d1
   obtain ⟨o, ho⟩ : ∃ o, Hid (outB (l3.getD k 0) 0 200 = o) := ⟨_, Lib.hid rfl⟩
   have hsk := Lib.hid (fun (e : o = true) => hst.out k hlt (by rw [ho.out]; exact e))
   have hnx := Lib.hid (fun (e : o = false) => next_ok hok (by rw [ho.out, e]; rfl))
   clear fc
   generalize l3.getD k 0 = xk at *
   cases o
   ·have hn2 := hnx.out rfl
    clear hnx hsk
    go_wp2_with (go_at_call 67; (with_reducible refine (within9 _ _ _ _ ho).mono ?_); rintro e w' ⟨rfl, rfl⟩)
    go_round
    case rel => exact ⟨k + 1, by omega, by go_num, hn2⟩
    case measure => (simp [intOf] <;> omega)
   ·have hq : Hid (f = 1) := Lib.hid (hsk.out rfl)
    clear hnx hsk
    go_wp2_with (go_at_call 67; (with_reducible refine (within9 _ _ _ _ ho).mono ?_); rintro e w' ⟨rfl, rfl⟩)
    go_ret
    exact ⟨ret_int hq.out.symm, HB1.out⟩
  ·obtain rfl : k = 3 := by omega
   have hq : Hid (f = 0) := Lib.hid (hze.out hok.out)
   go_wp2
   go_ret
   exact ⟨ret_int hq.out.symm, HB1.out⟩
end Go.Proofs.YtmlpjffnmkndoaaGreatDoor

namespace Go.Proofs.YtmlpjffnmkndoaaGreatDoor
open Go.RowKit
set_option linter.unusedVariables false
set_option linter.unusedSimpArgs false
set_option maxRecDepth 100000 in
set_option maxHeartbeats 2000000 in
theorem RcheckWeight_any {M : Nat} (hD : Hid (RdivOk M)) (hM : LenB M) (hM2 : p10 2000 ≤ M) {s t : ByteArray} {w : World} {φ : Phi} (hφ : Fz φ w) (hp : PowP φ) (hs : s.size ≤ 9223372036854775807) (ht : t.size ≤ 9223372036854775807) {f : Int} (hf : Hid (wgtF (s, t) = f)) :
  Calls Tryz.prog 66 #[.agg #[.string s, .string t]] w (fun e w' => e = .returned (.int .i64 f) ∧ Below w.heap.size w w') := by
 have HM2 := Lib.hid hM2
 have h13 : 10000000000000 ≤ M := Nat.le_trans p10_13 hM2
 have HP := Lib.hid hp
 have HI := Lib.hid ((Inv.start hφ).alloc (.cells #[.string s, .string t] 32))
 have HK := Lib.hid (Blk.new w #[.string s, .string t] 32)
 have hq := hf.out
 unfold wgtF at hq
 dsimp only at hq
 obtain ⟨g, hg⟩ : ∃ g, Hid (shoF s t = g) := ⟨_, Lib.hid rfl⟩
 obtain ⟨r, hr⟩ : ∃ r, Hid (ratX s t = r) := ⟨_, Lib.hid rfl⟩
 rw [hg.out, hr.out] at hq
 clear hM2 hφ hp
 go_enter Tryz.func66, Tryz.ntmps66
 go_upto_region 1 with fail
 generalize w.alloc (.cells #[.string s, .string t] 32) = wx at *
 obtain ⟨bx, hbx⟩ : ∃ b, w.heap.size = b := ⟨_, rfl⟩
 rw [hbx] at HK ⊢
 have HBX := Lib.hid hbx
 clear hbx
 have x0 : wx.cell? ⟨bx, 0, none⟩ = some (.string s) := HK.out.cell 0
 have x1 : wx.cell? ⟨bx, 1, none⟩ = some (.string t) := HK.out.cell 1
 by_cases hg0 : g = 0
 ·subst hg0
  have HOK := Lib.hid (ratF_ok (shoF_ok hg.out).1)
  obtain ⟨hN, hDn⟩ := sho_lt hg.out
  have hC := Lib.hid (fun W (hf : Fz φ W) => RFracOf_any HOK.out hf)
  obtain ⟨N, hNe⟩ : ∃ N, dV (bodyB s).data.toList = N := ⟨_, rfl⟩
  obtain ⟨Dn, hDe⟩ : ∃ N, dV t.data.toList = N := ⟨_, rfl⟩
  rw [hr.out, hNe, hDe] at hC
  rw [hNe] at hN
  rw [hDe] at hDn
  obtain ⟨q1, hq1⟩ : ∃ q, Hid (cmpQ r 0 = q) := ⟨_, Lib.hid rfl⟩
  have e1 := cmpQ_le (x := r) (y := 0)
  rw [hq1.out] at e1
  have hC0 := Lib.hid (fun (ψ : Phi) W (hf : Fz ψ W) => RWhole_any (n := 0) (by decide) (by decide) hf)
  rw [show ((0 : Int) : Rat) = 0 from rfl, show (0 : Int).natAbs = 0 from rfl] at hC0
  have m1 : N * 1 + 0 * Dn ≤ M := by omega
  have m2 : Dn * 1 ≤ M := by omega
  have M12 := Lib.hid (And.intro m1 m2)
  rw [if_neg (by simp : ¬ (0 : Int) ≠ 0)] at hq
  clear hNe hDe m1 m2
  by_cases hr0 : r ≤ 0
  ·have hq0 : q1 ≤ 0 := e1.2 hr0
   rw [if_pos hr0] at hq
   have HQ := Lib.hid hq
   clear hq e1 hr0
   go_wp2_with (first
    | (go_at_call 72; (with_reducible refine (ShortRatio_any hM HM2.out hs ht hg HI.out.fz HP.out).mono ?_); rintro e w2 ⟨rfl, hb2⟩; have I2 := Lib.hid (HI.out.callB hb2); have K2 := Lib.hid (HK.out.callB hb2); have y0 : w2.cell? ⟨bx, 0, none⟩ = some (.string s) := K2.out.cell 0; have y1 : w2.cell? ⟨bx, 1, none⟩ = some (.string t) := K2.out.cell 1; clear hb2)
    | (go_at_call 12; (with_reducible refine (hC.out _ I2.out.fz).mono ?_); rintro e w3 ⟨v3, φ3, rfl, hi3, hv3⟩; have I3 := Lib.hid (I2.out.call hi3); have V3 := Lib.hid hv3; clear hi3 hv3)
    | (go_at_call 37; (with_reducible refine (hC0.out _ _ I3.out.fz).mono ?_); rintro e w4 ⟨v4, φ4, rfl, hi4, hv4⟩; have I4 := Lib.hid (I3.out.call hi4); have V4 := Lib.hid hv4; have V34 := Lib.hid (V3.out.mono hi4.le); clear hi4 hv4)
    | (go_at_call 11; (with_reducible refine (ROrder_any hD hM I4.out.fz V34.out V4.out M12.out.1 M12.out.2 hq1).mono ?_); rintro e w5 ⟨rfl, hb5⟩; have I5 := Lib.hid (I4.out.callB hb5); clear hb5))
   go_ret
   exact ⟨ret_int HQ.out, I5.out.bel⟩
  ·have hq0 : ¬ q1 ≤ 0 := fun h => hr0 (e1.1 h)
   rw [if_neg hr0] at hq
   have HQ := Lib.hid hq
   clear hq e1 hr0
   go_wp2_with (first
    | (go_at_call 72; (with_reducible refine (ShortRatio_any hM HM2.out hs ht hg HI.out.fz HP.out).mono ?_); rintro e w2 ⟨rfl, hb2⟩; have I2 := Lib.hid (HI.out.callB hb2); have K2 := Lib.hid (HK.out.callB hb2); have y0 : w2.cell? ⟨bx, 0, none⟩ = some (.string s) := K2.out.cell 0; have y1 : w2.cell? ⟨bx, 1, none⟩ = some (.string t) := K2.out.cell 1; clear hb2)
    | (go_at_call 12; (with_reducible refine (hC.out _ I2.out.fz).mono ?_); rintro e w3 ⟨v3, φ3, rfl, hi3, hv3⟩; have I3 := Lib.hid (I2.out.call hi3); have V3 := Lib.hid hv3; clear hi3 hv3)
    | (go_at_call 37; (with_reducible refine (hC0.out _ _ I3.out.fz).mono ?_); rintro e w4 ⟨v4, φ4, rfl, hi4, hv4⟩; have I4 := Lib.hid (I3.out.call hi4); have V4 := Lib.hid hv4; have V34 := Lib.hid (V3.out.mono hi4.le); clear hi4 hv4)
    | (go_at_call 11; (with_reducible refine (ROrder_any hD hM I4.out.fz V34.out V4.out M12.out.1 M12.out.2 hq1).mono ?_); rintro e w5 ⟨rfl, hb5⟩; have I5 := Lib.hid (I4.out.callB hb5); clear hb5))
   go_ret
   exact ⟨ret_int HQ.out, I5.out.bel⟩
 ·rw [if_pos hg0] at hq
  have h0i : (g == 0) = false := by simp [hg0]
  have h0j : (g != 0) = true := by simp [hg0]
  have HQ := Lib.hid hq
  clear hq hg0
  go_wp2_with (first
   | (go_at_call 72; (with_reducible refine (ShortRatio_any hM HM2.out hs ht hg HI.out.fz HP.out).mono ?_); rintro e w2 ⟨rfl, hb2⟩; have I2 := Lib.hid (HI.out.callB hb2); have K2 := Lib.hid (HK.out.callB hb2); have y0 : w2.cell? ⟨bx, 0, none⟩ = some (.string s) := K2.out.cell 0; have y1 : w2.cell? ⟨bx, 1, none⟩ = some (.string t) := K2.out.cell 1; clear hb2)
   | (go_at_call 12; (with_reducible refine (hC.out _ I2.out.fz).mono ?_); rintro e w3 ⟨v3, φ3, rfl, hi3, hv3⟩; have I3 := Lib.hid (I2.out.call hi3); have V3 := Lib.hid hv3; clear hi3 hv3)
   | (go_at_call 37; (with_reducible refine (hC0.out _ _ I3.out.fz).mono ?_); rintro e w4 ⟨v4, φ4, rfl, hi4, hv4⟩; have I4 := Lib.hid (I3.out.call hi4); have V4 := Lib.hid hv4; have V34 := Lib.hid (V3.out.mono hi4.le); clear hi4 hv4)
   | (go_at_call 11; (with_reducible refine (ROrder_any hD hM I4.out.fz V34.out V4.out M12.out.1 M12.out.2 hq1).mono ?_); rintro e w5 ⟨rfl, hb5⟩; have I5 := Lib.hid (I4.out.callB hb5); clear hb5))
  go_ret
  exact ⟨ret_int HQ.out, I2.out.bel⟩
end Go.Proofs.YtmlpjffnmkndoaaGreatDoor

namespace Go.Proofs.YtmlpjffnmkndoaaGreatDoor
open Go.RowKit
set_option linter.unusedVariables false
set_option linter.unusedSimpArgs false
end Go.Proofs.YtmlpjffnmkndoaaGreatDoor
