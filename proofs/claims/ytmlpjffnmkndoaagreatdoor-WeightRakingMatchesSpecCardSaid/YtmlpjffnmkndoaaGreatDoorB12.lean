/- The reference's exact numbers: the walk of Plus. Conditions: none beyond what the claim form gives. -/
import Derived.Test.YtmlpjffnmkndoaaGreatDoorB11
namespace Go.Proofs.YtmlpjffnmkndoaaGreatDoor
open Go.RowKit
set_option linter.unusedVariables false
set_option linter.unusedSimpArgs false
set_option maxRecDepth 100000 in
set_option maxHeartbeats 4000000 in
theorem RPlus_any {M : Nat} (hD : Hid (RdivOk M)) (hM : LenB M) {v1 v2 : Value} {x y : Rat} {N1 D1 N2 D2 : Nat} {w : World} {φ : Phi} (hφ : Fz φ w) (hv1 : FrX φ v1 x N1 D1) (hv2 : FrX φ v2 y N2 D2) (hM1 : N1 * D2 + N2 * D1 ≤ M) (hM2 : D1 * D2 ≤ M) :
  Calls Tryz.prog 38 #[v1, v2] w (FrXP (x + y) (N1 * D2 + N2 * D1) (D1 * D2) φ w) := by
 obtain ⟨g1, n1, d1, p1, p2, a1, c1, a2, c2, rfl, s1, s2, l1, l2, hd1, hn1, hnd1, hx1⟩ := hv1.open
 obtain ⟨g2, n2, d2, p3, p4, a3, c3, a4, c4, rfl, s3, s4, l3, l4, hd2, hn2, hnd2, hx2⟩ := hv2.open
 have hq1 : n1 * d2 ≤ N1 * D2 := Nat.mul_le_mul hn1 hnd2
 have hq2 : n2 * d1 ≤ N2 * D1 := Nat.mul_le_mul hn2 hnd1
 have hqd : d1 * d2 ≤ D1 * D2 := Nat.mul_le_mul hnd1 hnd2
 have hdd : 0 < d1 * d2 := Nat.mul_pos hd1 hd2
 have hmd : d1 * d2 ≤ M := Nat.le_trans hqd hM2
 have hmp : n1 * d2 ≤ M := by omega
 have hmq : n2 * d1 ≤ M := by omega
 have b1 : p1 ≤ 2000000000 := by
  have := hM.len (Nat.le_trans (Nat.le_mul_of_pos_right n1 hd2) hmp)
  rw [l1.out] at this; omega
 have b2 : p2 ≤ 2000000000 := by
  have := hM.len (Nat.le_trans (Nat.le_mul_of_pos_right d1 hd2) hmd)
  rw [l2.out] at this; omega
 have b3 : p3 ≤ 2000000000 := by
  have := hM.len (Nat.le_trans (Nat.le_mul_of_pos_right n2 hd1) hmq)
  rw [l3.out] at this; omega
 have b4 : p4 ≤ 2000000000 := by
  have := hM.len (Nat.le_trans (Nat.le_mul_of_pos_left d2 hd1) hmd)
  rw [l4.out] at this; omega
 obtain ⟨φ1, hle1, hi1, hb1⟩ := (Inv.start hφ).frz (.cells #[.bool g1, .slice a1 p1 c1, .slice a2 p2 c2] 36)
 obtain ⟨φ2, hle2, hi2, hb2⟩ := hi1.frz (.cells #[.bool g2, .slice a3 p3 c3, .slice a4 p4 c4] 36)
 have hS0 : Hid (FsS w φ φ2 φ2 (w.heap.size + 1 + 1) _) := Lib.hid ⟨by have := RsSt.start hi2 #[.bool false, .slice none 0 0, .slice none 0 0] 36; rw [alloc_sz, alloc_sz] at this; exact this, φ2.le_refl⟩
 rw [alloc_sz] at hb2
 have S1 := Lib.hid ((s1.mono hle1).mono hle2)
 have S2 := Lib.hid ((s2.mono hle1).mono hle2)
 have S3 := Lib.hid ((s3.mono hle1).mono hle2)
 have S4 := Lib.hid ((s4.mono hle1).mono hle2)
 have HB1 := Lib.hid (hle2 _ _ hb1)
 have HB2 := Lib.hid hb2
 have HX1 := Lib.hid hx1
 have HX2 := Lib.hid hx2
 clear s1 s2 s3 s4 hle1 hle2 hi1 hi2 hb1 hb2 hφ hx1 hx2
 obtain ⟨kp, hkp⟩ : ∃ k, Hid ((limbs (n1 * d2)).length = k) := ⟨_, Lib.hid rfl⟩
 obtain ⟨kq, hkq⟩ : ∃ k, Hid ((limbs (n2 * d1)).length = k) := ⟨_, Lib.hid rfl⟩
 obtain ⟨kd, hkd⟩ : ∃ k, Hid ((limbs (d1 * d2)).length = k) := ⟨_, Lib.hid rfl⟩
 have bp : kp ≤ 1000000000 := by rw [← hkp.out]; exact hM.len hmp
 have bq : kq ≤ 1000000000 := by rw [← hkq.out]; exact hM.len hmq
 go_enter Tryz.func38, Tryz.ntmps38
 go_wp2
 generalize ((w.alloc (Obj.cells #[Value.bool g1, Value.slice a1 p1 c1, Value.slice a2 p2 c2] 36)).alloc (Obj.cells #[Value.bool g2, Value.slice a3 p3 c3, Value.slice a4 p4 c4] 36)).alloc (Obj.cells #[Value.bool false, Value.slice none 0 0, Value.slice none 0 0] 36) = wx at *
 have hS1 : Hid (FsS w φ φ2 φ2 (w.heap.size + 1 + 1) wx.drew) := Lib.hid (hS0.out.callB (bdrewN (Below.refl _ wx) 1))
 obtain ⟨bb, hbb⟩ : ∃ b, w.heap.size = b := ⟨_, rfl⟩
 have HBB := Lib.hid hbb
 rw [hbb] at HB1 HB2 hS0 hS1 ⊢
 clear hbb
 have hbox := Lib.hid (fun (φ3 : Phi) (W : World) (h : Hid (FsS w φ φ2 φ3 (bb + 1 + 1) W)) => And.intro (box_cell HB1.out h.out.le h.out.fz 0) (And.intro (box_cell HB1.out h.out.le h.out.fz 1) (And.intro (box_cell HB1.out h.out.le h.out.fz 2) (And.intro (box_cell HB2.out h.out.le h.out.fz 0) (And.intro (box_cell HB2.out h.out.le h.out.fz 1) (box_cell HB2.out h.out.le h.out.fz 2))))))
 obtain ⟨x0, x1, x2, x3, x4, x5⟩ := hbox.out _ _ hS1
 go_region_held3 (fun w' => w'.cell? ⟨bb, 0, none⟩ = some (.bool g1) ∧ w'.cell? ⟨bb, 1, none⟩ = some (.slice a1 p1 c1) ∧ w'.cell? ⟨bb, 2, none⟩ = some (.slice a2 p2 c2) ∧ w'.cell? ⟨bb + 1, 0, none⟩ = some (.bool g2) ∧ w'.cell? ⟨bb + 1, 1, none⟩ = some (.slice a3 p3 c3) ∧ w'.cell? ⟨bb + 1, 2, none⟩ = some (.slice a4 p4 c4)) (first | exact ⟨x0, x1, x2, x3, x4, x5⟩ | exact ⟨by assumption, by assumption, by assumption, by assumption, by assumption, by assumption⟩ | exact ⟨keep3 (by assumption) (show bb + 1 + 1 ≠ bb by omega), keep3 (by assumption) (show bb + 1 + 1 ≠ bb by omega), keep3 (by assumption) (show bb + 1 + 1 ≠ bb by omega), keep3 (by assumption) (show bb + 1 + 1 ≠ bb + 1 by omega), keep3 (by assumption) (show bb + 1 + 1 ≠ bb + 1 by omega), keep3 (by assumption) (show bb + 1 + 1 ≠ bb + 1 by omega)⟩) (first
  | ((with_reducible refine (Rtimes_any (m := n1) (n := d2) hS1.out.fz S1.out S4.out l1 l4 b1 b4).mono ?_); rintro e w3 ⟨a5, c5, φ3, rfl, hi3, hs3⟩; rw [hkp.out]; have H3 := Lib.hid (hS1.out.call hi3); have SP := Lib.hid hs3; obtain ⟨y0, y1, y2, y3, y4, y5⟩ := hbox.out _ _ H3)
  | ((with_reducible refine (Rtimes_any (m := n2) (n := d1) H3.out.fz (S3.out.mono H3.out.le) (S2.out.mono H3.out.le) l3 l2 b3 b2).mono ?_); rintro e w4 ⟨a6, c6, φ4, rfl, hi4, hs4⟩; rw [hkq.out]; have H4 := Lib.hid (H3.out.call hi4); have L4 := Lib.hid hi4.le; have SQ := Lib.hid hs4; obtain ⟨y0, y1, y2, y3, y4, y5⟩ := hbox.out _ _ H4))
 go_wp2_with fail
 (with_reducible refine (Rtimes_any (m := d1) (n := d2) H4.out.fz (S2.out.mono H4.out.le) (S4.out.mono H4.out.le) l2 l4 b2 b4).mono ?_)
 rintro e w5 ⟨a0, c0, φ5, rfl, hi5, hs5⟩
 rw [hkd.out]
 have H5 := Lib.hid (H4.out.call hi5)
 have SD := Lib.hid hs5
 have SP5 := Lib.hid ((SP.out.mono L4.out).mono hi5.le)
 have SQ5 := Lib.hid (SQ.out.mono hi5.le)
 clear hi5 hs5 hi4 hs4 hi3 hs3 x0 x1 x2 x3 x4 x5
 obtain ⟨y0, y1, y2, y3, y4, y5⟩ := hbox.out _ _ H5
 clear SP SQ H3 H4 hS1 hS0
 by_cases hg : g1 = g2
 ·subst hg
  have hgb : (g1 == g1) = true := by simp
  obtain ⟨kr, hkr⟩ : ∃ k, Hid ((limbs (n1 * d2 + n2 * d1)).length = k) := ⟨_, Lib.hid rfl⟩
  have HX : Hid (rat g1 (n1 * d2 + n2 * d1) (d1 * d2) = x + y) := Lib.hid (by rw [rat_plus_same hd1 hd2, HX1.out, HX2.out])
  have hqr : n1 * d2 + n2 * d1 ≤ N1 * D2 + N2 * D1 := by omega
  have hmr : n1 * d2 + n2 * d1 ≤ M := by omega
  go_wp2
  have H4d : Hid (FsS w φ φ2 φ5 (bb + 1 + 1) w5.drew) := Lib.hid (H5.out.callB (bdrewN (Below.refl _ w5) 1))
  obtain ⟨x0, x1, x2, x3, x4, x5⟩ := hbox.out _ _ H5
  clear y0 y1 y2 y3 y4 y5
  go_region_held3 (fun w' => w'.cell? ⟨bb, 0, none⟩ = some (.bool g1) ∧ w'.cell? ⟨bb, 1, none⟩ = some (.slice a1 p1 c1) ∧ w'.cell? ⟨bb, 2, none⟩ = some (.slice a2 p2 c2) ∧ w'.cell? ⟨bb + 1, 0, none⟩ = some (.bool g1) ∧ w'.cell? ⟨bb + 1, 1, none⟩ = some (.slice a3 p3 c3) ∧ w'.cell? ⟨bb + 1, 2, none⟩ = some (.slice a4 p4 c4)) (first | exact ⟨x0, x1, x2, x3, x4, x5⟩ | exact ⟨by assumption, by assumption, by assumption, by assumption, by assumption, by assumption⟩ | exact ⟨keep3 (by assumption) (show bb + 1 + 1 ≠ bb by omega), keep3 (by assumption) (show bb + 1 + 1 ≠ bb by omega), keep3 (by assumption) (show bb + 1 + 1 ≠ bb by omega), keep3 (by assumption) (show bb + 1 + 1 ≠ bb + 1 by omega), keep3 (by assumption) (show bb + 1 + 1 ≠ bb + 1 by omega), keep3 (by assumption) (show bb + 1 + 1 ≠ bb + 1 by omega)⟩) (first
   | ((with_reducible refine (Rreduced_any (neg := g1) hD H6.out.fz SR.out (SD.out.mono L6.out) hkr hkd hmr hmd hdd hM HX hqr hqd).mono ?_); rintro e w7 ⟨v7, φ7, rfl, hi7, hv7⟩; obtain ⟨g7, n7, d7, k7, k8, a8, c8, a9, c9, rfl, t1, t2, m5, m6, r5⟩ := hv7.open; have H7 := Lib.hid (H6.out.call hi7); have V7 := Lib.hid hv7; obtain ⟨z0, z1, z2, z3, z4, z5⟩ := H7.out.rs.facts; obtain ⟨y0, y1, y2, y3, y4, y5⟩ := hbox.out _ _ H7)
   | ((with_reducible refine (Rplus_any H4d.out.fz SP5.out SQ5.out hkp hkq (by omega) (by omega)).mono ?_); rintro e w6 ⟨a7, c7, φ6, rfl, hi6, hs6⟩; rw [hkr.out]; have H6 := Lib.hid (H4d.out.call hi6); have L6 := Lib.hid hi6.le; have SR := Lib.hid hs6; obtain ⟨y0, y1, y2, y3, y4, y5⟩ := hbox.out _ _ H6))
  go_wp2
  have hIZ := Lib.hid (((H7.out.rs.inv.setCell H7.out.rs.l H7.out.rs.f (off := 0) (Value.bool g7)).setCell H7.out.rs.l H7.out.rs.f (off := 1) (Value.slice a8 k7 c8)).setCell H7.out.rs.l H7.out.rs.f (off := 2) (Value.slice a9 k8 c9))
  have hBZ := Lib.hid (((H7.out.rs.k.set 0 (Value.bool g7)).set 1 (Value.slice a8 k7 c8)).set 2 (Value.slice a9 k8 c9))
  have e0 : _ = some (Value.bool g7) := hBZ.out.cell 0
  have e1 : _ = some (Value.slice a8 k7 c8) := hBZ.out.cell 1
  have e2 : _ = some (Value.slice a9 k8 c9) := hBZ.out.cell 2
  (try simp only [Exit.inBlock, Exit.then])
  refine bodyPost_ret (v := .agg #[(Value.bool g7), (Value.slice a8 k7 c8), (Value.slice a9 k8 c9)]) (by simp [results, Tryz.results38, go_sem, e0, e1, e2]) rfl ?_
  exact ⟨_, φ7, rfl, hIZ.out, V7.out⟩
 ·have hg2 : g2 = !g1 := by cases g1 <;> cases g2 <;> simp_all
  subst hg2
  have hgb : (g1 == !g1) = false := by cases g1 <;> rfl
  clear hg
  by_cases hle : n2 * d1 ≤ n1 * d2
  ·obtain ⟨cq, hcq⟩ : ∃ q, Hid (cmpN (n1 * d2) (n2 * d1) = q) := ⟨_, Lib.hid rfl⟩
   have hcq0 : 0 ≤ cq := by rw [← hcq.out, cmpN, if_neg (by omega)]; split <;> omega
   obtain ⟨kr, hkr⟩ : ∃ k, Hid ((limbs (n1 * d2 - n2 * d1)).length = k) := ⟨_, Lib.hid rfl⟩
   have HX : Hid (rat g1 (n1 * d2 - n2 * d1) (d1 * d2) = x + y) := Lib.hid (by rw [rat_plus_left hd1 hd2 hle, HX1.out, HX2.out])
   have hqr : n1 * d2 - n2 * d1 ≤ N1 * D2 + N2 * D1 := by omega
   have hmr : n1 * d2 - n2 * d1 ≤ M := by omega
   go_wp2_with (go_at_call 84; refine (Rorder_any H5.out.fz SP5.out SQ5.out hkp hkq (by omega) (by omega) hcq).mono ?_; rintro e w8 ⟨rfl, hb8⟩; have H8 := Lib.hid (H5.out.callB hb8); clear hb8; obtain ⟨u0, u1, u2, u3, u4, u5⟩ := hbox.out _ _ H8)
   have H4d : Hid (FsS w φ φ2 φ5 (bb + 1 + 1) w8.drew) := Lib.hid (H8.out.callB (bdrewN (Below.refl _ w8) 1))
   obtain ⟨x0, x1, x2, x3, x4, x5⟩ := hbox.out _ _ H8
   clear y0 y1 y2 y3 y4 y5
   go_region_held3 (fun w' => w'.cell? ⟨bb, 0, none⟩ = some (.bool g1) ∧ w'.cell? ⟨bb, 1, none⟩ = some (.slice a1 p1 c1) ∧ w'.cell? ⟨bb, 2, none⟩ = some (.slice a2 p2 c2) ∧ w'.cell? ⟨bb + 1, 0, none⟩ = some (.bool (!g1)) ∧ w'.cell? ⟨bb + 1, 1, none⟩ = some (.slice a3 p3 c3) ∧ w'.cell? ⟨bb + 1, 2, none⟩ = some (.slice a4 p4 c4)) (first | exact ⟨x0, x1, x2, x3, x4, x5⟩ | exact ⟨by assumption, by assumption, by assumption, by assumption, by assumption, by assumption⟩ | exact ⟨keep3 (by assumption) (show bb + 1 + 1 ≠ bb by omega), keep3 (by assumption) (show bb + 1 + 1 ≠ bb by omega), keep3 (by assumption) (show bb + 1 + 1 ≠ bb by omega), keep3 (by assumption) (show bb + 1 + 1 ≠ bb + 1 by omega), keep3 (by assumption) (show bb + 1 + 1 ≠ bb + 1 by omega), keep3 (by assumption) (show bb + 1 + 1 ≠ bb + 1 by omega)⟩) (first
    | ((with_reducible refine (Rreduced_any (neg := g1) hD H6.out.fz SR.out (SD.out.mono L6.out) hkr hkd hmr hmd hdd hM HX hqr hqd).mono ?_); rintro e w7 ⟨v7, φ7, rfl, hi7, hv7⟩; obtain ⟨g7, n7, d7, k7, k8, a8, c8, a9, c9, rfl, t1, t2, m5, m6, r5⟩ := hv7.open; have H7 := Lib.hid (H6.out.call hi7); have V7 := Lib.hid hv7; obtain ⟨z0, z1, z2, z3, z4, z5⟩ := H7.out.rs.facts; obtain ⟨y0, y1, y2, y3, y4, y5⟩ := hbox.out _ _ H7)
    | ((with_reducible refine (Rminus_any H4d.out.fz SP5.out SQ5.out hkp hkq (by omega) hle).mono ?_); rintro e w6 ⟨a7, c7, φ6, rfl, hi6, hs6⟩; rw [hkr.out]; have H6 := Lib.hid (H4d.out.call hi6); have L6 := Lib.hid hi6.le; have SR := Lib.hid hs6; obtain ⟨y0, y1, y2, y3, y4, y5⟩ := hbox.out _ _ H6))
   go_wp2
   have hIZ := Lib.hid (((H7.out.rs.inv.setCell H7.out.rs.l H7.out.rs.f (off := 0) (Value.bool g7)).setCell H7.out.rs.l H7.out.rs.f (off := 1) (Value.slice a8 k7 c8)).setCell H7.out.rs.l H7.out.rs.f (off := 2) (Value.slice a9 k8 c9))
   have hBZ := Lib.hid (((H7.out.rs.k.set 0 (Value.bool g7)).set 1 (Value.slice a8 k7 c8)).set 2 (Value.slice a9 k8 c9))
   have e0 : _ = some (Value.bool g7) := hBZ.out.cell 0
   have e1 : _ = some (Value.slice a8 k7 c8) := hBZ.out.cell 1
   have e2 : _ = some (Value.slice a9 k8 c9) := hBZ.out.cell 2
   (try simp only [Exit.inBlock, Exit.then])
   refine bodyPost_ret (v := .agg #[(Value.bool g7), (Value.slice a8 k7 c8), (Value.slice a9 k8 c9)]) (by simp [results, Tryz.results38, go_sem, e0, e1, e2]) rfl ?_
   exact ⟨_, φ7, rfl, hIZ.out, V7.out⟩
  ·obtain ⟨cq, hcq⟩ : ∃ q, Hid (cmpN (n1 * d2) (n2 * d1) = q) := ⟨_, Lib.hid rfl⟩
   have hcq0 : ¬ 0 ≤ cq := by rw [← hcq.out, cmpN, if_pos (by omega)]; omega
   obtain ⟨kr, hkr⟩ : ∃ k, Hid ((limbs (n2 * d1 - n1 * d2)).length = k) := ⟨_, Lib.hid rfl⟩
   have HX : Hid (rat (!g1) (n2 * d1 - n1 * d2) (d1 * d2) = x + y) := Lib.hid (by rw [rat_plus_right hd1 hd2 (by omega), HX1.out, HX2.out])
   have hqr : n2 * d1 - n1 * d2 ≤ N1 * D2 + N2 * D1 := by omega
   have hmr : n2 * d1 - n1 * d2 ≤ M := by omega
   go_wp2_with (go_at_call 84; refine (Rorder_any H5.out.fz SP5.out SQ5.out hkp hkq (by omega) (by omega) hcq).mono ?_; rintro e w8 ⟨rfl, hb8⟩; have H8 := Lib.hid (H5.out.callB hb8); clear hb8; obtain ⟨u0, u1, u2, u3, u4, u5⟩ := hbox.out _ _ H8)
   have H4d : Hid (FsS w φ φ2 φ5 (bb + 1 + 1) w8.drew) := Lib.hid (H8.out.callB (bdrewN (Below.refl _ w8) 1))
   obtain ⟨x0, x1, x2, x3, x4, x5⟩ := hbox.out _ _ H8
   clear y0 y1 y2 y3 y4 y5
   go_region_held3 (fun w' => w'.cell? ⟨bb, 0, none⟩ = some (.bool g1) ∧ w'.cell? ⟨bb, 1, none⟩ = some (.slice a1 p1 c1) ∧ w'.cell? ⟨bb, 2, none⟩ = some (.slice a2 p2 c2) ∧ w'.cell? ⟨bb + 1, 0, none⟩ = some (.bool (!g1)) ∧ w'.cell? ⟨bb + 1, 1, none⟩ = some (.slice a3 p3 c3) ∧ w'.cell? ⟨bb + 1, 2, none⟩ = some (.slice a4 p4 c4)) (first | exact ⟨x0, x1, x2, x3, x4, x5⟩ | exact ⟨by assumption, by assumption, by assumption, by assumption, by assumption, by assumption⟩ | exact ⟨keep3 (by assumption) (show bb + 1 + 1 ≠ bb by omega), keep3 (by assumption) (show bb + 1 + 1 ≠ bb by omega), keep3 (by assumption) (show bb + 1 + 1 ≠ bb by omega), keep3 (by assumption) (show bb + 1 + 1 ≠ bb + 1 by omega), keep3 (by assumption) (show bb + 1 + 1 ≠ bb + 1 by omega), keep3 (by assumption) (show bb + 1 + 1 ≠ bb + 1 by omega)⟩) (first
    | ((with_reducible refine (Rreduced_any (neg := (!g1)) hD H6.out.fz SR.out (SD.out.mono L6.out) hkr hkd hmr hmd hdd hM HX hqr hqd).mono ?_); rintro e w7 ⟨v7, φ7, rfl, hi7, hv7⟩; obtain ⟨g7, n7, d7, k7, k8, a8, c8, a9, c9, rfl, t1, t2, m5, m6, r5⟩ := hv7.open; have H7 := Lib.hid (H6.out.call hi7); have V7 := Lib.hid hv7; obtain ⟨z0, z1, z2, z3, z4, z5⟩ := H7.out.rs.facts; obtain ⟨y0, y1, y2, y3, y4, y5⟩ := hbox.out _ _ H7)
    | ((with_reducible refine (Rminus_any H4d.out.fz SQ5.out SP5.out hkq hkp (by omega) (by omega)).mono ?_); rintro e w6 ⟨a7, c7, φ6, rfl, hi6, hs6⟩; rw [hkr.out]; have H6 := Lib.hid (H4d.out.call hi6); have L6 := Lib.hid hi6.le; have SR := Lib.hid hs6; obtain ⟨y0, y1, y2, y3, y4, y5⟩ := hbox.out _ _ H6))
   go_wp2
   have hIZ := Lib.hid (((H7.out.rs.inv.setCell H7.out.rs.l H7.out.rs.f (off := 0) (Value.bool g7)).setCell H7.out.rs.l H7.out.rs.f (off := 1) (Value.slice a8 k7 c8)).setCell H7.out.rs.l H7.out.rs.f (off := 2) (Value.slice a9 k8 c9))
   have hBZ := Lib.hid (((H7.out.rs.k.set 0 (Value.bool g7)).set 1 (Value.slice a8 k7 c8)).set 2 (Value.slice a9 k8 c9))
   have e0 : _ = some (Value.bool g7) := hBZ.out.cell 0
   have e1 : _ = some (Value.slice a8 k7 c8) := hBZ.out.cell 1
   have e2 : _ = some (Value.slice a9 k8 c9) := hBZ.out.cell 2
   (try simp only [Exit.inBlock, Exit.then])
   refine bodyPost_ret (v := .agg #[(Value.bool g7), (Value.slice a8 k7 c8), (Value.slice a9 k8 c9)]) (by simp [results, Tryz.results38, go_sem, e0, e1, e2]) rfl ?_
   exact ⟨_, φ7, rfl, hIZ.out, V7.out⟩
end Go.Proofs.YtmlpjffnmkndoaaGreatDoor
