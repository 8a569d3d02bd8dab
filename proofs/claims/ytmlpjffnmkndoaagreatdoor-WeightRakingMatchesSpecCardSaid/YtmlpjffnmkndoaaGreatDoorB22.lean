/- The reference's reading of ratios: the walks of ShortRatio, open and FracOf. Conditions: the library's table of powers of ten reads as it was laid. -/
import Derived.Test.YtmlpjffnmkndoaaGreatDoorBD
import Derived.Test.YtmlpjffnmkndoaaGreatDoorB12
namespace Go.Proofs.YtmlpjffnmkndoaaGreatDoor
open Go.RowKit
set_option linter.unusedVariables false
set_option linter.unusedSimpArgs false
set_option maxHeartbeats 1000000 in
theorem ShortRatio_any {M : Nat} (hM : LenB M) (hM2 : p10 2000 ≤ M) {n d : ByteArray} (hn : n.size ≤ 9223372036854775807) (hd : d.size ≤ 9223372036854775807) {f : Int} (hf : Hid (shoF n d = f)) {w : World} {φ : Phi} (hφ : Fz φ w) (hp : PowP φ) :
  Calls Tryz.prog 72 #[.agg #[.string n, .string d]] w (fun e w' => e = .returned (.int .i64 f) ∧ Below w.heap.size w w') := by
 have HM := Lib.hid hM2
 have HP := Lib.hid hp
 have HI := Lib.hid ((Inv.start hφ).alloc (.cells #[.string n, .string d] 32))
 have hB : Blk (w.alloc (.cells #[.string n, .string d] 32)) w.heap.size _ _ := Blk.new _ _ _
 have HB := Lib.hid hB
 obtain ⟨B, hBB⟩ : ∃ x, Hid (bodyB n = x) := ⟨_, Lib.hid rfl⟩
 obtain ⟨g, hg⟩ : ∃ g, Hid (ratF n d = g) := ⟨_, Lib.hid rfl⟩
 have hq := hf.out
 unfold shoF at hq
 rw [hg.out, hBB.out] at hq
 clear hM2 hφ hB hf hp
 by_cases h0 : g = 0
 ·subst h0
  rw [if_neg (by simp)] at hq
  by_cases h1 : 12 < B.size
  ·rw [if_pos (.inl h1)] at hq
   have h1i : (12 : Int) < (B.size : Int) := by omega
   have HQ := Lib.hid hq
   clear hq h1
   go_enter Tryz.func72, Tryz.ntmps72
   go_wp2_with (first
    | (go_at_call 14; (with_reducible refine (RCheckRatio_any hM HM.out hn hd hg HI.out.fz HP.out).mono ?_); rintro e w1 ⟨rfl, hb⟩; have HI1 := Lib.hid (HI.out.bel.trans (hb.mono HI.out.size)); have k1 := HB.out.callB hb; have x0 : w1.cell? ⟨w.heap.size, 0, none⟩ = some (.string n) := k1.cell 0; have x1 : w1.cell? ⟨w.heap.size, 1, none⟩ = some (.string d) := k1.cell 1; clear k1 hb)
    | (go_at_call 48; (with_reducible refine (trimPx hBB _).mono ?_); rintro e w' ⟨rfl, rfl⟩))
   go_ret
   exact ⟨ret_int HQ.out, HI1.out⟩
  ·have h1i : ¬ (12 : Int) < (B.size : Int) := by omega
   by_cases h2 : 12 < d.size
   ·rw [if_pos (.inr h2)] at hq
    have h2i : (12 : Int) < (d.size : Int) := by omega
    have HQ := Lib.hid hq
    clear hq h1 h2
    go_enter Tryz.func72, Tryz.ntmps72
    go_wp2_with (first
     | (go_at_call 14; (with_reducible refine (RCheckRatio_any hM HM.out hn hd hg HI.out.fz HP.out).mono ?_); rintro e w1 ⟨rfl, hb⟩; have HI1 := Lib.hid (HI.out.bel.trans (hb.mono HI.out.size)); have k1 := HB.out.callB hb; have x0 : w1.cell? ⟨w.heap.size, 0, none⟩ = some (.string n) := k1.cell 0; have x1 : w1.cell? ⟨w.heap.size, 1, none⟩ = some (.string d) := k1.cell 1; clear k1 hb)
     | (go_at_call 48; (with_reducible refine (trimPx hBB _).mono ?_); rintro e w' ⟨rfl, rfl⟩))
    go_ret
    exact ⟨ret_int HQ.out, HI1.out⟩
   ·have h2i : ¬ (12 : Int) < (d.size : Int) := by omega
    rw [if_neg (by omega)] at hq
    have HQ := Lib.hid hq
    clear hq h1 h2
    go_enter Tryz.func72, Tryz.ntmps72
    go_wp2_with (first
     | (go_at_call 14; (with_reducible refine (RCheckRatio_any hM HM.out hn hd hg HI.out.fz HP.out).mono ?_); rintro e w1 ⟨rfl, hb⟩; have HI1 := Lib.hid (HI.out.bel.trans (hb.mono HI.out.size)); have k1 := HB.out.callB hb; have x0 : w1.cell? ⟨w.heap.size, 0, none⟩ = some (.string n) := k1.cell 0; have x1 : w1.cell? ⟨w.heap.size, 1, none⟩ = some (.string d) := k1.cell 1; clear k1 hb)
     | (go_at_call 48; (with_reducible refine (trimPx hBB _).mono ?_); rintro e w' ⟨rfl, rfl⟩))
    go_ret
    exact ⟨ret_int HQ.out, HI1.out⟩
 ·rw [if_pos h0] at hq
  have h0i : (g == 0) = false := by simp [h0]
  have h0j : (g != 0) = true := by simp [h0]
  have HQ := Lib.hid hq
  clear hq h0
  go_enter Tryz.func72, Tryz.ntmps72
  go_wp2_with (first
   | (go_at_call 14; (with_reducible refine (RCheckRatio_any hM HM.out hn hd hg HI.out.fz HP.out).mono ?_); rintro e w1 ⟨rfl, hb⟩; have HI1 := Lib.hid (HI.out.bel.trans (hb.mono HI.out.size)); have k1 := HB.out.callB hb; have x0 : w1.cell? ⟨w.heap.size, 0, none⟩ = some (.string n) := k1.cell 0; have x1 : w1.cell? ⟨w.heap.size, 1, none⟩ = some (.string d) := k1.cell 1; clear k1 hb)
   | (go_at_call 48; (with_reducible refine (trimPx hBB _).mono ?_); rintro e w' ⟨rfl, rfl⟩))
  go_ret
  exact ⟨ret_int HQ.out, HI1.out⟩
theorem hasPx {n : ByteArray} {ng : Bool} (hg : Hid (negB n = ng)) (w : World) :
  Calls Tryz.prog 86 #[.string n, .string ⟨#[45]⟩] w (fun e w' => e = .returned (.bool ng) ∧ w = w') := by
 refine (Tryz.strings_HasPrefix n ⟨#[45]⟩ w).mono ?_
 rintro e w' ⟨rfl, rfl⟩
 refine ⟨?_, rfl⟩
 rw [← hg.out]; rfl
set_option maxRecDepth 100000 in
set_option maxHeartbeats 2000000 in
theorem Ropen_any {n d : ByteArray} (hok : RatOk n d) {w : World} {φ : Phi} (hφ : Fz φ w) :
  Calls Tryz.prog 40 #[.agg #[.string n, .string d]] w (FrXP (ratX n d) (dV (bodyB n).data.toList) (dV d.data.toList) φ w) := by
 obtain ⟨φ1, hle1, hi1, hb1⟩ := (Inv.start hφ).frz (.cells #[.string n, .string d] 32)
 have hS0 : Hid (FpS 77 w φ φ1 φ1 (w.heap.size + 1) _) := Lib.hid ⟨by have := RsSt.start hi1 #[.bool false, .slice none 0 0, .slice none 0 0] 77; rw [alloc_sz] at this; exact this, φ1.le_refl⟩
 have HB := Lib.hid hb1
 have hdp := hok.den
 have hD1 := Lib.hid hok.f.1.2.1
 have hD2 := Lib.hid hok.f.2.1.2.1
 have hs1 := hok.s1
 have hs2 := hok.s2
 obtain ⟨x, hx⟩ : ∃ x, Hid (ratX n d = x) := ⟨_, Lib.hid rfl⟩
 rw [hx.out]
 unfold ratX at hx
 obtain ⟨B, hB⟩ : ∃ B, Hid (bodyB n = B) := ⟨_, Lib.hid rfl⟩
 obtain ⟨ng, hg⟩ : ∃ b, Hid (negB n = b) := ⟨_, Lib.hid rfl⟩
 rw [hB.out] at hD1 hs1 ⊢
 rw [hB.out, hg.out] at hx
 have hsz1 : B.size ≤ 2000000000 := by omega
 have hsz2 : d.size ≤ 2000000000 := by omega
 obtain ⟨v1, hv1⟩ : ∃ v, Hid (dV B.data.toList = v) := ⟨_, Lib.hid rfl⟩
 obtain ⟨v2, hv2⟩ : ∃ v, Hid (dV d.data.toList = v) := ⟨_, Lib.hid rfl⟩
 rw [hv1.out, hv2.out] at hx ⊢
 rw [hv2.out] at hdp
 obtain ⟨q1, hq1⟩ : ∃ k, Hid ((limbs v1).length = k) := ⟨_, Lib.hid rfl⟩
 obtain ⟨q2, hq2⟩ : ∃ k, Hid ((limbs v2).length = k) := ⟨_, Lib.hid rfl⟩
 have HDP := Lib.hid hdp
 clear hle1 hi1 hb1 hφ hok hs1 hs2 hdp
 go_enter Tryz.func40, Tryz.ntmps40
 go_upto_region 1 with fail
 generalize (w.alloc (.cells #[.string n, .string d] 32)).alloc (.cells #[.bool false, .slice none 0 0, .slice none 0 0] 77) = wx at *
 obtain ⟨bb, hbb⟩ : ∃ b, w.heap.size = b := ⟨_, rfl⟩
 rw [hbb] at HB hS0 ⊢
 have HBB := Lib.hid hbb
 clear hbb
 have hS1 : Hid (FpS 77 w φ φ1 φ1 (bb + 1) wx.drew) := Lib.hid (hS0.out.callB (bdrewN (Below.refl _ wx) 1))
 obtain ⟨x0, x1⟩ := box2 HB.out hS1.out.le hS1.out.fz
 have hne : bb + 1 ≠ bb := by omega
 have HNE := Lib.hid hne
 clear hne
 go_region_held3 (fun w' => w'.cell? ⟨bb, 0, none⟩ = some (.string n) ∧ w'.cell? ⟨bb, 1, none⟩ = some (.string d)) (first | with_reducible exact ⟨x0, x1⟩ | with_reducible exact ⟨by assumption, by assumption⟩ | exact ⟨keep3 (by with_reducible assumption) HNE.out, keep3 (by with_reducible assumption) HNE.out⟩) (first
  | ((with_reducible refine (hasPx hg _).mono ?_); rintro e w' ⟨rfl, rfl⟩)
  | ((with_reducible refine (trimPx hB _).mono ?_); rintro e w' ⟨rfl, rfl⟩)
  | ((with_reducible refine (readNat_any hsz2 hD2 hv2 H5.out.fz).mono ?_); rintro e w6 ⟨a6, c6, φ6, rfl, hi6, hs6⟩; rw [hq2.out]; have H6 := Lib.hid (H5.out.call hi6); have L6 := Lib.hid hi6.le; have SQ := Lib.hid hs6; obtain ⟨y0, y1⟩ := box2 HB.out H6.out.le H6.out.fz; obtain ⟨z0, z1, z2, z3, z4, z5⟩ := H6.out.rs.facts; clear hi6 hs6)
  | ((with_reducible refine (readNat_any hsz1 hD1 hv1 hS1.out.fz).mono ?_); rintro e w5 ⟨a5, c5, φ5, rfl, hi5, hs5⟩; rw [hq1.out]; have H5 := Lib.hid (hS1.out.call hi5); have SP := Lib.hid hs5; obtain ⟨y0, y1⟩ := box2 HB.out H5.out.le H5.out.fz; clear hi5 hs5))
 go_wp2
 have hIZ := Lib.hid (((H6.out.rs.inv.setCell H6.out.rs.l H6.out.rs.f (off := 0) (Value.bool ng)).setCell H6.out.rs.l H6.out.rs.f (off := 1) (Value.slice a5 q1 c5)).setCell H6.out.rs.l H6.out.rs.f (off := 2) (Value.slice a6 q2 c6))
 have hBZ := Lib.hid (((H6.out.rs.k.set 0 (Value.bool ng)).set 1 (Value.slice a5 q1 c5)).set 2 (Value.slice a6 q2 c6))
 have e0 : _ = some (Value.bool ng) := hBZ.out.cell 0
 have e1 : _ = some (Value.slice a5 q1 c5) := hBZ.out.cell 1
 have e2 : _ = some (Value.slice a6 q2 c6) := hBZ.out.cell 2
 (try simp only [Exit.inBlock, Exit.then])
 refine bodyPost_ret (v := .agg #[(Value.bool ng), (Value.slice a5 q1 c5), (Value.slice a6 q2 c6)]) (by simp [results, Tryz.results40, go_sem, e0, e1, e2]) rfl ?_
 exact ⟨_, φ6, rfl, hIZ.out, ng, v1, v2, a5, c5, a6, c6, by rw [hq1.out, hq2.out], SP.out.mono L6.out, SQ.out, HDP.out, Nat.le_refl _, Nat.le_refl _, hx.out⟩
set_option maxHeartbeats 2000000 in
theorem RFracOf_any {n d : ByteArray} (hok : RatOk n d) {w : World} {φ : Phi} (hφ : Fz φ w) :
  Calls Tryz.prog 12 #[.agg #[.string n, .string d]] w (FrXP (ratX n d) (dV (bodyB n).data.toList) (dV d.data.toList) φ w) := by
 have HOK := Lib.hid hok
 obtain ⟨x, hx⟩ : ∃ x, Hid (ratX n d = x) := ⟨_, Lib.hid rfl⟩
 obtain ⟨N, hN⟩ : ∃ x, Hid (dV (bodyB n).data.toList = x) := ⟨_, Lib.hid rfl⟩
 obtain ⟨D, hDn⟩ : ∃ x, Hid (dV d.data.toList = x) := ⟨_, Lib.hid rfl⟩
 have hC := Lib.hid (fun W (hf : Fz φ W) => Ropen_any HOK.out hf)
 rw [hx.out, hN.out, hDn.out] at hC
 rw [hx.out, hN.out, hDn.out]
 have hI := (Inv.start hφ).alloc (.cells #[.string n, .string d] 32)
 have hR := RsSt.start hI #[.bool false, .slice none 0 0, .slice none 0 0] 36
 rw [alloc_sz] at hR
 have HR := Lib.hid hR
 clear hok hφ hI hR
 go_enter Tryz.func12, Tryz.ntmps12
 go_wp2_with (go_at_call 40; (with_reducible refine (hC.out _ HR.out.inv.fz).mono ?_); rintro e w1 ⟨v, φ1, rfl, hi, hv⟩; obtain ⟨a1, n1, d1, k1, k2, b1, c1, b2, c2, rfl, _⟩ := hv.open; have HV := Lib.hid hv; have H1 := Lib.hid ((HR.out.call hi).callB ((Below.refl _ _).alloc (Nat.le_refl _) (.cells #[.bool a1, .slice b1 k1 c1, .slice b2 k2 c2] 77))); obtain ⟨y0, y1, y2, y3, y4, y5⟩ := H1.out.facts; clear hi hv)
 have hIZ := Lib.hid (((H1.out.inv.setCell H1.out.l H1.out.f (off := 0) (Value.bool a1)).setCell H1.out.l H1.out.f (off := 1) (Value.slice b1 k1 c1)).setCell H1.out.l H1.out.f (off := 2) (Value.slice b2 k2 c2))
 have hBZ := Lib.hid (((H1.out.k.set 0 (Value.bool a1)).set 1 (Value.slice b1 k1 c1)).set 2 (Value.slice b2 k2 c2))
 have e0 : _ = some (Value.bool a1) := hBZ.out.cell 0
 have e1 : _ = some (Value.slice b1 k1 c1) := hBZ.out.cell 1
 have e2 : _ = some (Value.slice b2 k2 c2) := hBZ.out.cell 2
 (try simp only [Exit.inBlock, Exit.then])
 refine bodyPost_ret (v := .agg #[(Value.bool a1), (Value.slice b1 k1 c1), (Value.slice b2 k2 c2)]) (by simp [results, Tryz.results12, go_sem, e0, e1, e2]) rfl ?_
 exact ⟨_, φ1, rfl, hIZ.out, HV.out⟩
end Go.Proofs.YtmlpjffnmkndoaaGreatDoor
