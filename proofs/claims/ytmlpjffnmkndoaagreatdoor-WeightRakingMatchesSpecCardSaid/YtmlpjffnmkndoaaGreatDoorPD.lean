/- The program's exact numbers: the walks of reduced, Plus, Minus and Compare. The program's exact numbers: the walks of Plus, Minus and Compare. Conditions: none beyond what the claim form gives. -/
import Derived.Test.YtmlpjffnmkndoaaGreatDoorPC
import Derived.Test.YtmlpjffnmkndoaaGreatDoorP11
namespace Go.Proofs.YtmlpjffnmkndoaaGreatDoor
open Go.RowKit
set_option linter.unusedVariables false
set_option linter.unusedSimpArgs false
set_option maxRecDepth 100000 in
set_option maxHeartbeats 2000000 in
theorem reduced_any {M : Nat} (hD : Hid (DivOk M)) (hM : LenB M) {v : Value} {x : Rat} {N D : Nat} {w : World} {φ : Phi} (hφ : Fz φ w) (hv : FfX φ v x N D) (hN : N ≤ M) (hDM : D ≤ M) :
  Calls Tryz.prog 117 #[v] w (FfXP x N D φ w) := by
 obtain ⟨neg, n, d, k1, k2, a1, c1, a2, c2, rfl, s1, s2, h1, h2, hd0, hnN, hdD, hx⟩ := hv.open
 have hn : n ≤ M := Nat.le_trans hnN hN
 have hd : d ≤ M := Nat.le_trans hdD hDM
 have hk1 : k1 ≤ 1000000000 := by rw [← h1.out]; exact hM.len hn
 have hk2 : k2 ≤ 1000000000 := by rw [← h2.out]; exact hM.len hd
 have hg0 : 0 < Nat.gcd n d := gcd_dle hd0
 obtain ⟨g, hg⟩ : ∃ g, Hid (Nat.gcd n d = g) := ⟨_, Lib.hid rfl⟩
 rw [hg.out] at hg0
 obtain ⟨ng, hng⟩ : ∃ b, Hid ((neg && decide (n / g ≠ 0)) = b) := ⟨_, Lib.hid rfl⟩
 obtain ⟨q1, hq1⟩ : ∃ k, Hid ((limbs (n / g)).length = k) := ⟨_, Lib.hid rfl⟩
 obtain ⟨q2, hq2⟩ : ∃ k, Hid ((limbs (d / g)).length = k) := ⟨_, Lib.hid rfl⟩
 have hfin : Hid (0 < d / g ∧ n / g ≤ N ∧ d / g ≤ D ∧ rat ng (n / g) (d / g) = x) := Lib.hid (by
  have hgd : g ∣ d := by rw [← hg.out]; exact Nat.gcd_dvd_right n d
  refine ⟨Nat.div_pos (Nat.le_of_dvd hd0 hgd) hg0, Nat.le_trans (Nat.div_le_self n g) hnN, Nat.le_trans (Nat.div_le_self d g) hdD, ?_⟩
  rw [← hng.out, rat_lowest hg0 (by rw [← hg.out]; exact Nat.gcd_dvd_left n d) hgd, hx])
 have hC := Lib.hid (fun W (hf : Fz φ W) => (lowest_any (neg := neg) hD hf s1 s2 h1 h2 hn hd hd0))
 rw [hg.out, hng.out] at hC
 have hBX0 := RsSt.start (Inv.start hφ) #[.bool neg, .slice a1 k1 c1, .slice a2 k2 c2] 70
 have hRS0 := RsSt.start hBX0.inv #[.bool false, .slice none 0 0, .slice none 0 0] 70
 have hBX1 := (hBX0.callB ((Below.refl _ _).alloc (Nat.le_refl _) (.cells #[.bool false, .slice none 0 0, .slice none 0 0] 70)))
 rw [alloc_sz] at hRS0
 have hF0 : Hid (Fr2 w φ φ w.heap.size #[.bool neg, .slice a1 k1 c1, .slice a2 k2 c2] 70 (w.heap.size + 1) #[.bool false, .slice none 0 0, .slice none 0 0] 70 _) := Lib.hid ⟨hBX1, hRS0⟩
 have HV := Lib.hid hv
 clear hBX0 hRS0 hBX1 hφ hx hv s1 s2
 obtain ⟨bb, hbb⟩ : ∃ b, Hid (w.heap.size = b) := ⟨_, Lib.hid rfl⟩
 rw [hbb.out] at hF0
 go_enter Tryz.func117, Tryz.ntmps117
 go_upto_region 1 with fail
 rw [hbb.out]
 generalize (w.alloc (Obj.cells #[.bool neg, .slice a1 k1 c1, .slice a2 k2 c2] 70)).alloc (Obj.cells #[Value.bool false, Value.slice none 0 0, Value.slice none 0 0] 70) = wx at *
 have x0 : wx.cell? ⟨bb, 0, none⟩ = some (.bool neg) := hF0.out.x.k.cell 0
 have x1 : wx.cell? ⟨bb, 1, none⟩ = some (.slice a1 k1 c1) := hF0.out.x.k.cell 1
 have x2 : wx.cell? ⟨bb, 2, none⟩ = some (.slice a2 k2 c2) := hF0.out.x.k.cell 2
 obtain ⟨y0, y1, y2, y3, y4, y5⟩ := hF0.out.r.facts
 by_cases g1 : 1 < k2
 ·have g1i : (1 : Int) < (k2 : Int) := by omega
  go_wp2_with (go_at_call 110; (with_reducible refine (hC.out _ hF0.out.x.inv.fz).mono ?_); rintro e w1 ⟨a3, c3, a4, c4, φ1, rfl, hi1, hs3, hs4⟩; rw [hq1.out, hq2.out]; have X1 := Lib.hid (hF0.out.x.call hi1); have R1 := Lib.hid (hF0.out.r.call hi1); have SN := Lib.hid hs3; have SD := Lib.hid hs4; have x3 := X1.out.k.frz 0; have x4 := X1.out.k.frz 1; have x5 := X1.out.k.frz 2; have x0 : w1.cell? ⟨bb, 0, none⟩ = some (.bool neg) := X1.out.k.cell 0; have x1 : w1.cell? ⟨bb, 1, none⟩ = some (.slice a1 k1 c1) := X1.out.k.cell 1; have x2 : w1.cell? ⟨bb, 2, none⟩ = some (.slice a2 k2 c2) := X1.out.k.cell 2; obtain ⟨y0, y1, y2, y3, y4, y5⟩ := R1.out.facts; clear hi1 hs3 hs4)
  have hRa := R1.out.oth X1.out (by omega) 0 (.bool ng)
  have hXa := X1.out.set 0 (.bool ng)
  have hRb := hRa.oth hXa (by omega) 1 (.slice a3 q1 c3)
  have hXb := hXa.set 1 (.slice a3 q1 c3)
  have hRc := Lib.hid (hRb.oth hXb (by omega) 2 (.slice a4 q2 c4))
  clear hRa hXa hRb hXb
  have hIZ := Lib.hid (((hRc.out.inv.setCell hRc.out.l hRc.out.f (off := 0) (Value.bool ng)).setCell hRc.out.l hRc.out.f (off := 1) (Value.slice a3 q1 c3)).setCell hRc.out.l hRc.out.f (off := 2) (Value.slice a4 q2 c4))
  have hBZ := Lib.hid (((hRc.out.k.set 0 (Value.bool ng)).set 1 (Value.slice a3 q1 c3)).set 2 (Value.slice a4 q2 c4))
  have e0 : _ = some (Value.bool ng) := hBZ.out.cell 0
  have e1 : _ = some (Value.slice a3 q1 c3) := hBZ.out.cell 1
  have e2 : _ = some (Value.slice a4 q2 c4) := hBZ.out.cell 2
  (try simp only [Exit.inBlock, Exit.then])
  refine bodyPost_ret (v := .agg #[(Value.bool ng), (Value.slice a3 q1 c3), (Value.slice a4 q2 c4)]) (by simp [results, Tryz.results117, go_sem, e0, e1, e2]) rfl ?_
  exact ⟨_, φ1, rfl, hIZ.out, ng, n / g, d / g, a3, c3, a4, c4, by rw [hq1.out, hq2.out], SN.out, SD.out, hfin.out⟩
 ·have g1i : ¬ (1 : Int) < (k2 : Int) := by omega
  by_cases g2 : 4 < k1
  ·have g2i : (4 : Int) < (k1 : Int) := by omega
   go_wp2_with (go_at_call 110; (with_reducible refine (hC.out _ hF0.out.x.inv.fz).mono ?_); rintro e w1 ⟨a3, c3, a4, c4, φ1, rfl, hi1, hs3, hs4⟩; rw [hq1.out, hq2.out]; have X1 := Lib.hid (hF0.out.x.call hi1); have R1 := Lib.hid (hF0.out.r.call hi1); have SN := Lib.hid hs3; have SD := Lib.hid hs4; have x3 := X1.out.k.frz 0; have x4 := X1.out.k.frz 1; have x5 := X1.out.k.frz 2; have x0 : w1.cell? ⟨bb, 0, none⟩ = some (.bool neg) := X1.out.k.cell 0; have x1 : w1.cell? ⟨bb, 1, none⟩ = some (.slice a1 k1 c1) := X1.out.k.cell 1; have x2 : w1.cell? ⟨bb, 2, none⟩ = some (.slice a2 k2 c2) := X1.out.k.cell 2; obtain ⟨y0, y1, y2, y3, y4, y5⟩ := R1.out.facts; clear hi1 hs3 hs4)
   have hRa := R1.out.oth X1.out (by omega) 0 (.bool ng)
   have hXa := X1.out.set 0 (.bool ng)
   have hRb := hRa.oth hXa (by omega) 1 (.slice a3 q1 c3)
   have hXb := hXa.set 1 (.slice a3 q1 c3)
   have hRc := Lib.hid (hRb.oth hXb (by omega) 2 (.slice a4 q2 c4))
   clear hRa hXa hRb hXb
   have hIZ := Lib.hid (((hRc.out.inv.setCell hRc.out.l hRc.out.f (off := 0) (Value.bool ng)).setCell hRc.out.l hRc.out.f (off := 1) (Value.slice a3 q1 c3)).setCell hRc.out.l hRc.out.f (off := 2) (Value.slice a4 q2 c4))
   have hBZ := Lib.hid (((hRc.out.k.set 0 (Value.bool ng)).set 1 (Value.slice a3 q1 c3)).set 2 (Value.slice a4 q2 c4))
   have e0 : _ = some (Value.bool ng) := hBZ.out.cell 0
   have e1 : _ = some (Value.slice a3 q1 c3) := hBZ.out.cell 1
   have e2 : _ = some (Value.slice a4 q2 c4) := hBZ.out.cell 2
   (try simp only [Exit.inBlock, Exit.then])
   refine bodyPost_ret (v := .agg #[(Value.bool ng), (Value.slice a3 q1 c3), (Value.slice a4 q2 c4)]) (by simp [results, Tryz.results117, go_sem, e0, e1, e2]) rfl ?_
   exact ⟨_, φ1, rfl, hIZ.out, ng, n / g, d / g, a3, c3, a4, c4, by rw [hq1.out, hq2.out], SN.out, SD.out, hfin.out⟩
  ·have g2i : ¬ (4 : Int) < (k1 : Int) := by omega
   go_wp2
   have hIZ := Lib.hid (((hF0.out.r.inv.setCell hF0.out.r.l hF0.out.r.f (off := 0) (Value.bool neg)).setCell hF0.out.r.l hF0.out.r.f (off := 1) (Value.slice a1 k1 c1)).setCell hF0.out.r.l hF0.out.r.f (off := 2) (Value.slice a2 k2 c2))
   have hBZ := Lib.hid (((hF0.out.r.k.set 0 (Value.bool neg)).set 1 (Value.slice a1 k1 c1)).set 2 (Value.slice a2 k2 c2))
   have e0 : _ = some (Value.bool neg) := hBZ.out.cell 0
   have e1 : _ = some (Value.slice a1 k1 c1) := hBZ.out.cell 1
   have e2 : _ = some (Value.slice a2 k2 c2) := hBZ.out.cell 2
   (try simp only [Exit.inBlock, Exit.then])
   refine bodyPost_ret (v := .agg #[(Value.bool neg), (Value.slice a1 k1 c1), (Value.slice a2 k2 c2)]) (by simp [results, Tryz.results117, go_sem, e0, e1, e2]) rfl ?_
   exact ⟨_, φ, rfl, hIZ.out, HV.out⟩
end Go.Proofs.YtmlpjffnmkndoaaGreatDoor

namespace Go.Proofs.YtmlpjffnmkndoaaGreatDoor
open Go.RowKit
set_option linter.unusedVariables false
set_option linter.unusedSimpArgs false
theorem FfX.of {φ : Phi} {neg : Bool} {n d k1 k2 : Nat} {a1 : Option Addr} {c1 : Nat} {a2 : Option Addr} {c2 : Nat} {x : Rat} {N D : Nat} (s1 : SlV φ a1 c1 (limbs n)) (s2 : SlV φ a2 c2 (limbs d)) (h1 : Hid ((limbs n).length = k1)) (h2 : Hid ((limbs d).length = k2)) (hd : 0 < d) (hn : n ≤ N) (hD : d ≤ D) (hx : rat neg n d = x) : FfX φ (.agg #[.bool neg, .slice a1 k1 c1, .slice a2 k2 c2]) x N D :=
 ⟨neg, n, d, a1, c1, a2, c2, by rw [h1.out, h2.out], s1, s2, hd, hn, hD, hx⟩
set_option maxRecDepth 100000 in
set_option maxHeartbeats 2000000 in
theorem Plus_any {M : Nat} (hD : Hid (DivOk M)) (hM : LenB M) {v1 v2 : Value} {x y : Rat} {N1 D1 N2 D2 : Nat} {w : World} {φ : Phi} (hφ : Fz φ w) (hv1 : FfX φ v1 x N1 D1) (hv2 : FfX φ v2 y N2 D2) (hM1 : N1 * D2 + N2 * D1 ≤ M) (hM2 : D1 * D2 ≤ M) :
  Calls Tryz.prog 125 #[v1, v2] w (FfXP (x + y) (N1 * D2 + N2 * D1) (D1 * D2) φ w) := by
 obtain ⟨g1, n1, d1, p1, p2, a1, c1, a2, c2, rfl, _⟩ := hv1.open
 obtain ⟨g2, n2, d2, p3, p4, a3, c3, a4, c4, rfl, _⟩ := hv2.open
 obtain ⟨φ1, hle1, hi1, hb1⟩ := (Inv.start hφ).frz (.cells #[.bool g1, .slice a1 p1 c1, .slice a2 p2 c2] 70)
 obtain ⟨φ2, hle2, hi2, hb2⟩ := hi1.frz (.cells #[.bool g2, .slice a3 p3 c3, .slice a4 p4 c4] 70)
 have hS0 : Hid (FpS 70 w φ φ2 φ2 (w.heap.size + 1 + 1) _) := Lib.hid ⟨by have := RsSt.start hi2 #[.bool false, .slice none 0 0, .slice none 0 0] 70; rw [alloc_sz, alloc_sz] at this; exact this, φ2.le_refl⟩
 rw [alloc_sz] at hb2
 have HV1 := Lib.hid ((hv1.mono hle1).mono hle2)
 have HV2 := Lib.hid ((hv2.mono hle1).mono hle2)
 have HB1 := Lib.hid (hle2 _ _ hb1)
 have HB2 := Lib.hid hb2
 have HMM := Lib.hid (And.intro hM1 hM2)
 obtain ⟨NB, hNB⟩ : ∃ NB, Hid (N1 * D2 + N2 * D1 = NB) := ⟨_, Lib.hid rfl⟩
 obtain ⟨DB, hDB⟩ : ∃ DB, Hid (D1 * D2 = DB) := ⟨_, Lib.hid rfl⟩
 rw [hNB.out, hDB.out]
 have hM3 : Hid (NB ≤ M) := Lib.hid (by rw [← hNB.out]; exact hM1)
 have hM4 : Hid (DB ≤ M) := Lib.hid (by rw [← hDB.out]; exact hM2)
 clear hle1 hle2 hi1 hi2 hb1 hb2 hφ hv1 hv2 hM1 hM2
 go_enter Tryz.func125, Tryz.ntmps125
 go_upto_region 1 with fail
 generalize ((w.alloc (Obj.cells #[Value.bool g1, Value.slice a1 p1 c1, Value.slice a2 p2 c2] 70)).alloc (Obj.cells #[Value.bool g2, Value.slice a3 p3 c3, Value.slice a4 p4 c4] 70)).alloc (Obj.cells #[Value.bool false, Value.slice none 0 0, Value.slice none 0 0] 70) = wx at *
 obtain ⟨bb, hbb⟩ : ∃ b, w.heap.size = b := ⟨_, rfl⟩
 rw [hbb] at HB1 HB2 hS0 ⊢
 have HBB := Lib.hid hbb
 clear hbb
 obtain ⟨x0, x1, x2, x3, x4, x5⟩ := and6 (box3 HB1.out hS0.out.le hS0.out.fz) (box3 HB2.out hS0.out.le hS0.out.fz)
 go_wp2_with (first
  | (go_at_call 92; (with_reducible refine (fplus_any hM hS0.out.fz HV1.out HV2.out HMM.out.1 HMM.out.2).mono ?_); rw [hNB.out, hDB.out]; rintro e w3 ⟨v3, φ3, rfl, hi3, hv3⟩; obtain ⟨g5, n5, d5, p5, p6, a5, c5, a6, c6, rfl, _⟩ := hv3.open; have H3 := Lib.hid (hS0.out.call hi3); have HV3 := Lib.hid hv3; clear hi3 hv3)
  | (go_at_call 117; (with_reducible refine (reduced_any hD hM H3.out.fz HV3.out hM3.out hM4.out).mono ?_); rintro e w4 ⟨v4, φ4, rfl, hi4, hv4⟩; obtain ⟨g7, n7, d7, p7, p8, a7, c7, a8, c8, rfl, _⟩ := hv4.open; have H4 := Lib.hid (H3.out.call hi4); have HV4 := Lib.hid hv4; obtain ⟨y0, y1, y2, y3, y4, y5⟩ := H4.out.rs.facts; clear hi4 hv4))
 have hIZ := Lib.hid (((H4.out.rs.inv.setCell H4.out.rs.l H4.out.rs.f (off := 0) (Value.bool g7)).setCell H4.out.rs.l H4.out.rs.f (off := 1) (Value.slice a7 p7 c7)).setCell H4.out.rs.l H4.out.rs.f (off := 2) (Value.slice a8 p8 c8))
 have hBZ := Lib.hid (((H4.out.rs.k.set 0 (Value.bool g7)).set 1 (Value.slice a7 p7 c7)).set 2 (Value.slice a8 p8 c8))
 have e0 : _ = some (Value.bool g7) := hBZ.out.cell 0
 have e1 : _ = some (Value.slice a7 p7 c7) := hBZ.out.cell 1
 have e2 : _ = some (Value.slice a8 p8 c8) := hBZ.out.cell 2
 (try simp only [Exit.inBlock, Exit.then])
 refine bodyPost_ret (v := .agg #[(Value.bool g7), (Value.slice a7 p7 c7), (Value.slice a8 p8 c8)]) (by simp [results, Tryz.results125, go_sem, e0, e1, e2]) rfl ?_
 exact ⟨_, φ4, rfl, hIZ.out, HV4.out⟩
/-- The number with the other sign. -/
theorem FfX.opp {φ : Phi} {g : Bool} {a1 : Option Addr} {k1 c1 : Nat} {a2 : Option Addr} {k2 c2 : Nat} {x : Rat} {N D : Nat} (h : FfX φ (.agg #[.bool g, .slice a1 k1 c1, .slice a2 k2 c2]) x N D) : FfX φ (.agg #[.bool (!g), .slice a1 k1 c1, .slice a2 k2 c2]) (-x) N D := by
 obtain ⟨neg, n, d, b1, e1, b2, e2, he, s1, s2, hd, hn, hD, hx⟩ := h
 injection he with he
 injection he with he
 injection he with h1 he
 injection he with h2 he
 injection he with h3 he
 injection h1 with h1
 injection h2 with h21 h22 h23
 injection h3 with h31 h32 h33
 subst h1 h21 h22 h23 h31 h32 h33
 exact ⟨!g, n, d, a1, c1, a2, c2, rfl, s1, s2, hd, hn, hD, by rw [rat_neg_eq, hx]⟩
set_option maxRecDepth 100000 in
set_option maxHeartbeats 2000000 in
theorem Minus_any {M : Nat} (hD : Hid (DivOk M)) (hM : LenB M) {v1 v2 : Value} {x y : Rat} {N1 D1 N2 D2 : Nat} {w : World} {φ : Phi} (hφ : Fz φ w) (hv1 : FfX φ v1 x N1 D1) (hv2 : FfX φ v2 y N2 D2) (hM1 : N1 * D2 + N2 * D1 ≤ M) (hM2 : D1 * D2 ≤ M) :
  Calls Tryz.prog 90 #[v1, v2] w (FfXP (x - y) (N1 * D2 + N2 * D1) (D1 * D2) φ w) := by
 obtain ⟨g1, n1, d1, p1, p2, a1, c1, a2, c2, rfl, _⟩ := hv1.open
 obtain ⟨g2, n2, d2, p3, p4, a3, c3, a4, c4, rfl, _⟩ := hv2.open
 obtain ⟨φ1, hle1, hi1, hb1⟩ := (Inv.start hφ).frz (.cells #[.bool g1, .slice a1 p1 c1, .slice a2 p2 c2] 70)
 have hBX0 := RsSt.start hi1 #[.bool g2, .slice a3 p3 c3, .slice a4 p4 c4] 70
 have hRS0 := RsSt.start hBX0.inv #[.bool false, .slice none 0 0, .slice none 0 0] 70
 have hBX1 := (hBX0.callB ((Below.refl _ _).alloc (Nat.le_refl _) (.cells #[.bool false, .slice none 0 0, .slice none 0 0] 70)))
 rw [alloc_sz, alloc_sz] at hRS0
 rw [alloc_sz] at hBX1
 have hF0 : Hid (Fr2 w φ φ1 (w.heap.size + 1) #[.bool g2, .slice a3 p3 c3, .slice a4 p4 c4] 70 (w.heap.size + 1 + 1) #[.bool false, .slice none 0 0, .slice none 0 0] 70 _) := Lib.hid ⟨hBX1, hRS0⟩
 have HV1 := Lib.hid (hv1.mono hle1)
 have HV2 := Lib.hid ((hv2.mono hle1).opp)
 have HB1 := Lib.hid hb1
 have HX : Hid (x + -y = x - y) := Lib.hid (Rat.sub_eq_add_neg x y).symm
 clear hle1 hi1 hb1 hφ hv1 hv2 hBX0 hRS0 hBX1
 go_enter Tryz.func90, Tryz.ntmps90
 go_upto_region 1 with fail
 generalize ((w.alloc (Obj.cells #[Value.bool g1, Value.slice a1 p1 c1, Value.slice a2 p2 c2] 70)).alloc (Obj.cells #[Value.bool g2, Value.slice a3 p3 c3, Value.slice a4 p4 c4] 70)).alloc (Obj.cells #[Value.bool false, Value.slice none 0 0, Value.slice none 0 0] 70) = wx at *
 obtain ⟨bb, hbb⟩ : ∃ b, w.heap.size = b := ⟨_, rfl⟩
 rw [hbb] at HB1 hF0 ⊢
 have HBB := Lib.hid hbb
 clear hbb
 obtain ⟨x0, x1, x2⟩ := box3 HB1.out φ1.le_refl hF0.out.x.inv.fz
 have y0 : wx.cell? ⟨bb + 1, 0, none⟩ = some (.bool g2) := hF0.out.x.k.cell 0
 have y1 := hF0.out.x.k.frz 0
 have hXa := hF0.out.x.set 0 (.bool (!g2))
 have hRa := hF0.out.r.oth hF0.out.x (by omega) 0 (.bool (!g2))
 have hF1 : Hid (Fr2 w φ φ1 (bb + 1) #[.bool (!g2), .slice a3 p3 c3, .slice a4 p4 c4] 70 (bb + 1 + 1) #[.bool false, .slice none 0 0, .slice none 0 0] 70 (wx.setCell ⟨bb + 1, 0, none⟩ (.bool (!g2)))) := Lib.hid ⟨hXa, hRa⟩
 clear hXa hRa hF0
 go_upto_region 2 with fail
 generalize wx.setCell ⟨bb + 1, 0, none⟩ (.bool (!g2)) = wy at *
 clear x0 x1 x2 y0 y1
 obtain ⟨x0, x1, x2⟩ := box3 HB1.out φ1.le_refl hF1.out.x.inv.fz
 have y0 : wy.cell? ⟨bb + 1, 0, none⟩ = some (.bool (!g2)) := hF1.out.x.k.cell 0
 have y1 : wy.cell? ⟨bb + 1, 1, none⟩ = some (.slice a3 p3 c3) := hF1.out.x.k.cell 1
 have y2 : wy.cell? ⟨bb + 1, 2, none⟩ = some (.slice a4 p4 c4) := hF1.out.x.k.cell 2
 go_wp2_with (go_at_call 125; (with_reducible refine (Plus_any hD hM hF1.out.x.inv.fz HV1.out HV2.out hM1 hM2).mono ?_); rw [HX.out]; rintro e w4 ⟨v4, φ4, rfl, hi4, hv4⟩; obtain ⟨g7, n7, d7, p7, p8, a7, c7, a8, c8, rfl, _⟩ := hv4.open; have H4 := Lib.hid (hF1.out.r.call hi4); have HV4 := Lib.hid hv4; obtain ⟨z0, z1, z2, z3, z4, z5⟩ := H4.out.facts; clear hi4 hv4)
 have hIZ := Lib.hid (((H4.out.inv.setCell H4.out.l H4.out.f (off := 0) (Value.bool g7)).setCell H4.out.l H4.out.f (off := 1) (Value.slice a7 p7 c7)).setCell H4.out.l H4.out.f (off := 2) (Value.slice a8 p8 c8))
 have hBZ := Lib.hid (((H4.out.k.set 0 (Value.bool g7)).set 1 (Value.slice a7 p7 c7)).set 2 (Value.slice a8 p8 c8))
 have e0 : _ = some (Value.bool g7) := hBZ.out.cell 0
 have e1 : _ = some (Value.slice a7 p7 c7) := hBZ.out.cell 1
 have e2 : _ = some (Value.slice a8 p8 c8) := hBZ.out.cell 2
 (try simp only [Exit.inBlock, Exit.then])
 refine bodyPost_ret (v := .agg #[(Value.bool g7), (Value.slice a7 p7 c7), (Value.slice a8 p8 c8)]) (by simp [results, Tryz.results90, go_sem, e0, e1, e2]) rfl ?_
 exact ⟨_, φ4, rfl, hIZ.out, HV4.out⟩
def cmpQ (x y : Rat) : Int := if x < y then -1 else if x = y then 0 else 1
theorem sgI_sub (x y : Rat) : sgI (x - y) = cmpQ x y := by
 unfold sgI cmpQ
 have h1 : x - y = 0 ↔ x = y := by
  constructor
  ·intro h
   have : x - y + y = 0 + y := by rw [h]
   rwa [Rat.sub_eq_add_neg, Rat.add_assoc, Rat.neg_add_cancel, Rat.add_zero, Rat.zero_add] at this
  ·intro h; rw [h, Rat.sub_eq_add_neg, Rat.add_neg_cancel]
 have h2 : x - y < 0 ↔ x < y := by grind
 by_cases hlt : x < y
 ·have hne : ¬ x = y := fun e => by rw [e] at hlt; exact absurd hlt (by grind)
  rw [if_neg (fun e => hne (h1.1 e)), if_pos (h2.2 hlt), if_pos hlt]
 ·by_cases he : x = y
  ·rw [if_pos (h1.2 he), if_neg hlt, if_pos he]
  ·rw [if_neg (fun e => he (h1.1 e)), if_neg (fun e => hlt (h2.1 e)), if_neg hlt, if_neg he]
set_option maxRecDepth 100000 in
set_option maxHeartbeats 2000000 in
theorem Compare_any {M : Nat} (hM : LenB M) {v1 v2 : Value} {x y : Rat} {N1 D1 N2 D2 : Nat} {w : World} {φ : Phi} (hφ : Fz φ w) (hv1 : FfX φ v1 x N1 D1) (hv2 : FfX φ v2 y N2 D2) (hM1 : N1 * D2 + N2 * D1 ≤ M) (hM2 : D1 * D2 ≤ M) {q : Int} (hq : Hid (cmpQ x y = q)) :
  Calls Tryz.prog 44 #[v1, v2] w (fun e w' => e = .returned (.int .i64 q) ∧ Below w.heap.size w w') := by
 obtain ⟨g1, n1, d1, p1, p2, a1, c1, a2, c2, rfl, _⟩ := hv1.open
 obtain ⟨g2, n2, d2, p3, p4, a3, c3, a4, c4, rfl, _⟩ := hv2.open
 obtain ⟨φ1, hle1, hi1, hb1⟩ := (Inv.start hφ).frz (.cells #[.bool g1, .slice a1 p1 c1, .slice a2 p2 c2] 70)
 have hBX0 := RsSt.start hi1 #[.bool g2, .slice a3 p3 c3, .slice a4 p4 c4] 70
 rw [alloc_sz] at hBX0
 have hF0 := Lib.hid hBX0
 have HV1 := Lib.hid (hv1.mono hle1)
 have HV2 := Lib.hid ((hv2.mono hle1).opp)
 have HB1 := Lib.hid hb1
 have HX : Hid (sgI (x + -y) = q) := Lib.hid (by rw [← Rat.sub_eq_add_neg, sgI_sub, hq.out])
 clear hle1 hi1 hb1 hφ hv1 hv2 hBX0
 go_enter Tryz.func44, Tryz.ntmps44
 go_upto_region 1 with fail
 generalize (w.alloc (Obj.cells #[Value.bool g1, Value.slice a1 p1 c1, Value.slice a2 p2 c2] 70)).alloc (Obj.cells #[Value.bool g2, Value.slice a3 p3 c3, Value.slice a4 p4 c4] 70) = wx at *
 obtain ⟨bb, hbb⟩ : ∃ b, w.heap.size = b := ⟨_, rfl⟩
 rw [hbb] at HB1 hF0 ⊢
 have HBB := Lib.hid hbb
 clear hbb
 have y0 : wx.cell? ⟨bb + 1, 0, none⟩ = some (.bool g2) := hF0.out.k.cell 0
 have y1 := hF0.out.k.frz 0
 have hF1 : Hid (RsSt w φ φ1 (bb + 1) #[.bool (!g2), .slice a3 p3 c3, .slice a4 p4 c4] 70 (wx.setCell ⟨bb + 1, 0, none⟩ (.bool (!g2)))) := Lib.hid (hF0.out.set 0 (.bool (!g2)))
 clear hF0
 go_upto_region 2 with fail
 generalize wx.setCell ⟨bb + 1, 0, none⟩ (.bool (!g2)) = wy at *
 clear y0 y1
 obtain ⟨x0, x1, x2⟩ := box3 HB1.out φ1.le_refl hF1.out.inv.fz
 have y0 : wy.cell? ⟨bb + 1, 0, none⟩ = some (.bool (!g2)) := hF1.out.k.cell 0
 have y1 : wy.cell? ⟨bb + 1, 1, none⟩ = some (.slice a3 p3 c3) := hF1.out.k.cell 1
 have y2 : wy.cell? ⟨bb + 1, 2, none⟩ = some (.slice a4 p4 c4) := hF1.out.k.cell 2
 go_wp2_with (first
  | (go_at_call 92; (with_reducible refine (fplus_any hM hF1.out.inv.fz HV1.out HV2.out hM1 hM2).mono ?_); rintro e w4 ⟨v4, φ4, rfl, hi4, hv4⟩; obtain ⟨g7, n7, d7, p7, p8, a7, c7, a8, c8, rfl, _⟩ := hv4.open; have H4 := Lib.hid (hF1.out.inv.call hi4); have HV4 := Lib.hid hv4; clear hi4 hv4)
  | (go_at_call 76; (with_reducible refine (Sign_any H4.out.fz HV4.out HX).mono ?_); rintro e w5 ⟨rfl, hb5⟩; have H5 := Lib.hid (H4.out.callB hb5); clear hb5))
 go_ret
 exact ⟨rfl, H5.out.bel⟩
end Go.Proofs.YtmlpjffnmkndoaaGreatDoor
