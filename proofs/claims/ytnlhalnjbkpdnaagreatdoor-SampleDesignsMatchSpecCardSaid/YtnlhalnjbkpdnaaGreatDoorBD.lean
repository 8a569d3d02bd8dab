/- The reference's exact numbers: the walks of Times, Opposite, Minus and Order. Exact numbers of the reference over a state that lasts. Conditions: none beyond what the claim form gives. -/
import Derived.Test.YtnlhalnjbkpdnaaGreatDoorBB
import Derived.Test.YtnlhalnjbkpdnaaGreatDoorPD
namespace Go.Proofs.YtnlhalnjbkpdnaaGreatDoor
open Go.RowKit
set_option linter.unusedVariables false
set_option linter.unusedSimpArgs false
set_option maxRecDepth 100000 in
set_option maxHeartbeats 4000000 in
theorem RTimes_any {M : Nat} (hD : Hid (RdivOk M)) (hM : LenB M) {v1 v2 : Value} {x y : Rat} {N1 D1 N2 D2 : Nat} {w : World} {φ : Phi} (hφ : Fz φ w) (hv1 : FrX φ v1 x N1 D1) (hv2 : FrX φ v2 y N2 D2) (hM1 : N1 * N2 ≤ M) (hM2 : D1 * D2 ≤ M) (hM3 : N1 ≤ M) (hM4 : N2 ≤ M) :
    Calls Tryz.prog 45 #[v1, v2] w (FrXP (x * y) (N1 * N2) (D1 * D2) φ w) := by
  obtain ⟨g1, n1, d1, p1, p2, a1, c1, a2, c2, rfl, s1, s2, l1, l2, hd1, hn1, hnd1, hx1⟩ := hv1.open
  obtain ⟨g2, n2, d2, p3, p4, a3, c3, a4, c4, rfl, s3, s4, l3, l4, hd2, hn2, hnd2, hx2⟩ := hv2.open
  obtain ⟨P, hP⟩ : ∃ P, n1 * n2 = P := ⟨_, rfl⟩
  obtain ⟨Q, hQ⟩ : ∃ Q, d1 * d2 = Q := ⟨_, rfl⟩
  obtain ⟨NB, hNB⟩ : ∃ P, N1 * N2 = P := ⟨_, rfl⟩
  obtain ⟨DB, hDB⟩ : ∃ Q, D1 * D2 = Q := ⟨_, rfl⟩
  obtain ⟨z, hz⟩ : ∃ z, x * y = z := ⟨_, rfl⟩
  have HX : Hid (rat (!(g1 == g2)) P Q = z) := Lib.hid (by have := rat_times (s1 := g1) (s2 := g2) (n1 := n1) (n2 := n2) hd1 hd2; rw [hx1, hx2, hP, hQ, hz] at this; exact this)
  have hPN : P ≤ NB := by rw [← hP, ← hNB]; exact Nat.mul_le_mul hn1 hn2
  have hQD : Q ≤ DB := by rw [← hQ, ← hDB]; exact Nat.mul_le_mul hnd1 hnd2
  have hQ0 : 0 < Q := by rw [← hQ]; exact Nat.mul_pos hd1 hd2
  have hd1Q : d1 ≤ Q := by rw [← hQ]; exact Nat.le_mul_of_pos_right d1 hd2
  have hd2Q : d2 ≤ Q := by rw [← hQ]; exact Nat.le_mul_of_pos_left d2 hd1
  rw [hNB] at hM1
  rw [hDB] at hM2
  rw [hNB, hDB, hz]
  have b1 : p1 ≤ 1000000000 := by rw [← l1.out]; exact hM.len (by omega)
  have b2 : p2 ≤ 1000000000 := by rw [← l2.out]; exact hM.len (by omega)
  have b3 : p3 ≤ 1000000000 := by rw [← l3.out]; exact hM.len (by omega)
  have b4 : p4 ≤ 1000000000 := by rw [← l4.out]; exact hM.len (by omega)
  have hPM : P ≤ M := by omega
  have hQM : Q ≤ M := by omega
  have HP := Lib.hid hP
  have HQ := Lib.hid hQ
  clear hP hQ hNB hDB hz hn1 hn2 hnd1 hnd2 hd1Q hd2Q hv1 hv2
  obtain ⟨φ1, hle1, hi1, hb1⟩ := (Inv.start hφ).frz (.cells #[.bool g1, .slice a1 p1 c1, .slice a2 p2 c2] 55)
  obtain ⟨φ2, hle2, hi2, hb2⟩ := hi1.frz (.cells #[.bool g2, .slice a3 p3 c3, .slice a4 p4 c4] 55)
  have hS0 : Hid (FpS 55 w φ φ2 φ2 (w.heap.size + 1 + 1) _) := Lib.hid ⟨by have := RsSt.start hi2 #[.bool false, .slice none 0 0, .slice none 0 0] 55; rw [alloc_sz, alloc_sz] at this; exact this, φ2.le_refl⟩
  rw [alloc_sz] at hb2
  have S1 := Lib.hid ((s1.mono hle1).mono hle2)
  have S2 := Lib.hid ((s2.mono hle1).mono hle2)
  have S3 := Lib.hid ((s3.mono hle1).mono hle2)
  have S4 := Lib.hid ((s4.mono hle1).mono hle2)
  have HB1 := Lib.hid (hle2 _ _ hb1)
  have HB2 := Lib.hid hb2
  clear s1 s2 s3 s4 hle1 hle2 hi1 hi2 hb1 hb2 hφ hx1 hx2
  obtain ⟨kp, hkp⟩ : ∃ k, Hid ((limbs P).length = k) := ⟨_, Lib.hid rfl⟩
  obtain ⟨kq, hkq⟩ : ∃ k, Hid ((limbs Q).length = k) := ⟨_, Lib.hid rfl⟩
  go_enter Tryz.func45, Tryz.ntmps45
  go_upto_region 1 with fail
  generalize ((w.alloc (Obj.cells #[Value.bool g1, Value.slice a1 p1 c1, Value.slice a2 p2 c2] 55)).alloc (Obj.cells #[Value.bool g2, Value.slice a3 p3 c3, Value.slice a4 p4 c4] 55)).alloc (Obj.cells #[Value.bool false, Value.slice none 0 0, Value.slice none 0 0] 55) = wx at *
  have hS1 : Hid (FpS 55 w φ φ2 φ2 (w.heap.size + 1 + 1) wx.drew) := Lib.hid (hS0.out.callB (bdrewN (Below.refl _ wx) 1))
  obtain ⟨bb, hbb⟩ : ∃ b, w.heap.size = b := ⟨_, rfl⟩
  have HBB := Lib.hid hbb
  rw [hbb] at HB1 HB2 hS0 hS1 ⊢
  clear hbb
  have hbox := Lib.hid (fun (φ3 : Phi) (W : World) (h : Hid (FpS 55 w φ φ2 φ3 (bb + 1 + 1) W)) => and6 (box3 HB1.out h.out.le h.out.fz) (box3 HB2.out h.out.le h.out.fz))
  obtain ⟨x0, x1, x2, x3, x4, x5⟩ := hbox.out _ _ hS1
  go_region_held3 (fun w' => w'.cell? ⟨bb, 0, none⟩ = some (.bool g1) ∧ w'.cell? ⟨bb, 1, none⟩ = some (.slice a1 p1 c1) ∧ w'.cell? ⟨bb, 2, none⟩ = some (.slice a2 p2 c2) ∧ w'.cell? ⟨bb + 1, 0, none⟩ = some (.bool g2) ∧ w'.cell? ⟨bb + 1, 1, none⟩ = some (.slice a3 p3 c3) ∧ w'.cell? ⟨bb + 1, 2, none⟩ = some (.slice a4 p4 c4)) (first | with_reducible exact ⟨x0, x1, x2, x3, x4, x5⟩ | with_reducible exact ⟨by assumption, by assumption, by assumption, by assumption, by assumption, by assumption⟩ | exact ⟨keep3 (by with_reducible assumption) (show bb + 1 + 1 ≠ bb by omega), keep3 (by with_reducible assumption) (show bb + 1 + 1 ≠ bb by omega), keep3 (by with_reducible assumption) (show bb + 1 + 1 ≠ bb by omega), keep3 (by with_reducible assumption) (show bb + 1 + 1 ≠ bb + 1 by omega), keep3 (by with_reducible assumption) (show bb + 1 + 1 ≠ bb + 1 by omega), keep3 (by with_reducible assumption) (show bb + 1 + 1 ≠ bb + 1 by omega)⟩) (first
    | ((with_reducible refine (Rreduced_any (neg := !(g1 == g2)) hD H4.out.fz (SP.out.mono L4.out) SQ.out hkp hkq hPM hQM hQ0 hM HX hPN hQD).mono ?_); rintro e w5 ⟨v5, φ5, rfl, hi5, hv5⟩; obtain ⟨g5, n5, d5, k5, k6, a7, c7, a8, c8, rfl, _⟩ := hv5.open; have H5 := Lib.hid (H4.out.call hi5); have V5 := Lib.hid hv5; obtain ⟨z0, z1, z2, z3, z4, z5⟩ := H5.out.rs.facts; obtain ⟨y0, y1, y2, y3, y4, y5⟩ := hbox.out _ _ H5)
    | ((with_reducible refine (Rtimes_any (m := d1) (n := d2) H3.out.fz (S2.out.mono H3.out.le) (S4.out.mono H3.out.le) l2 l4 (by omega) (by omega)).mono ?_); rintro e w4 ⟨a6, c6, φ4, rfl, hi4, hs4⟩; rw [HQ.out, hkq.out]; rw [HQ.out] at hs4; have H4 := Lib.hid (H3.out.call hi4); have L4 := Lib.hid hi4.le; have SQ := Lib.hid hs4; obtain ⟨y0, y1, y2, y3, y4, y5⟩ := hbox.out _ _ H4)
    | ((with_reducible refine (Rtimes_any (m := n1) (n := n2) hS1.out.fz S1.out S3.out l1 l3 (by omega) (by omega)).mono ?_); rintro e w3 ⟨a5, c5, φ3, rfl, hi3, hs3⟩; rw [HP.out, hkp.out]; rw [HP.out] at hs3; have H3 := Lib.hid (hS1.out.call hi3); have SP := Lib.hid hs3; obtain ⟨y0, y1, y2, y3, y4, y5⟩ := hbox.out _ _ H3))
  go_wp2
  have hIZ := Lib.hid (((H5.out.rs.inv.setCell H5.out.rs.l H5.out.rs.f (off := 0) (Value.bool g5)).setCell H5.out.rs.l H5.out.rs.f (off := 1) (Value.slice a7 k5 c7)).setCell H5.out.rs.l H5.out.rs.f (off := 2) (Value.slice a8 k6 c8))
  have hBZ := Lib.hid (((H5.out.rs.k.set 0 (Value.bool g5)).set 1 (Value.slice a7 k5 c7)).set 2 (Value.slice a8 k6 c8))
  have e0 : _ = some (Value.bool g5) := hBZ.out.cell 0
  have e1 : _ = some (Value.slice a7 k5 c7) := hBZ.out.cell 1
  have e2 : _ = some (Value.slice a8 k6 c8) := hBZ.out.cell 2
  (try simp only [Exit.inBlock, Exit.then])
  refine bodyPost_ret (v := .agg #[(Value.bool g5), (Value.slice a7 k5 c7), (Value.slice a8 k6 c8)]) (by simp [results, Tryz.results45, go_sem, e0, e1, e2]) rfl ?_
  exact ⟨_, φ5, rfl, hIZ.out, V5.out⟩
end Go.Proofs.YtnlhalnjbkpdnaaGreatDoor

namespace Go.Proofs.YtnlhalnjbkpdnaaGreatDoor
open Go.RowKit
set_option linter.unusedVariables false
set_option linter.unusedSimpArgs false
/-- A state that lasts over calls. -/
structure StC (P : Phi → World → Prop) : Prop where
  fz : ∀ {φ W}, P φ W → Fz φ W
  call : ∀ {φ W φ' w'}, P φ W → Inv W.heap.size W φ φ' w' → P φ' w'
section
variable {P : Phi → World → Prop} {φ : Phi} {W : World} {M : Nat}
theorem StC.callB (hP : StC P) (h : P φ W) {w' : World} (hb : Below W.heap.size W w') : P φ w' := hP.call h ((Inv.start (hP.fz h)).callB hb)
def FrC (P : Phi → World → Prop) (φ : Phi) (x : Rat) (N D : Nat) (e : Ending) (w' : World) : Prop :=
  ∃ (g : Bool) (a1 : Option Addr) (k1 c1 : Nat) (a2 : Option Addr) (k2 c2 : Nat) (φ' : Phi), e = .returned (.agg #[.bool g, .slice a1 k1 c1, .slice a2 k2 c2]) ∧ Hid (P φ' w') ∧ Hid (φ.le φ') ∧ Hid (FrX φ' (.agg #[.bool g, .slice a1 k1 c1, .slice a2 k2 c2]) x N D)
theorem FrC.of (hP : StC P) {y : Rat} {N D N' D' : Nat} (hN : N ≤ N') (hDD : D ≤ D') (h : Hid (P φ W)) {en : Ending} {w' : World} (hp : FrXP y N D φ W en w') : FrC P φ y N' D' en w' := by
  obtain ⟨v, φ', rfl, hi, hv⟩ := hp
  obtain ⟨g, n, d, a1, c1, a2, c2, rfl, s1, s2, h0, h1, h2, h3⟩ := hv
  exact ⟨g, a1, _, c1, a2, _, c2, φ', rfl, Lib.hid (hP.call h.out hi), Lib.hid hi.le, Lib.hid ⟨g, n, d, a1, c1, a2, c2, rfl, s1, s2, h0, Nat.le_trans h1 hN, Nat.le_trans h2 hDD, h3⟩⟩
theorem RPart_C (hP : StC P) {a b N D : Nat} (hq : Hid (a ≤ N ∧ b ≤ D ∧ 0 < b ∧ N < 9223372036854775808 ∧ D < 9223372036854775808)) (hS : Hid (P φ W)) :
    Calls Tryz.prog 92 #[.int .i64 (a : Int), .int .i64 (b : Int)] W (FrC P φ (mkRat a b) N D) :=
  (RPart_any (by have := hq.out; omega) (by have := hq.out; omega) hq.out.2.2.1 (hP.fz hS.out)).mono (fun en w' hp => FrC.of hP hq.out.1 hq.out.2.1 hS hp)
theorem RTimes_C (hP : StC P) (hD : Hid (RdivOk M)) (hM : LenB M) {v1 v2 : Value} {x y : Rat} {N1 D1 N2 D2 : Nat} {ψ ψ2 : Phi} (h1 : Hid (FrX ψ v1 x N1 D1)) (hl : Hid (ψ.le φ)) (h2 : Hid (FrX ψ2 v2 y N2 D2)) (hl2 : Hid (ψ2.le φ)) (hB : Hid (N1 * N2 ≤ M ∧ D1 * D2 ≤ M ∧ N1 ≤ M ∧ N2 ≤ M)) {N D : Nat} (hN : Hid (N1 * N2 ≤ N ∧ D1 * D2 ≤ D)) (hS : Hid (P φ W)) :
    Calls Tryz.prog 45 #[v1, v2] W (FrC P φ (x * y) N D) :=
  (RTimes_any hD hM (hP.fz hS.out) (h1.out.mono hl.out) (h2.out.mono hl2.out) hB.out.1 hB.out.2.1 hB.out.2.2.1 hB.out.2.2.2).mono (fun en w' hp => FrC.of hP hN.out.1 hN.out.2 hS hp)
end
end Go.Proofs.YtnlhalnjbkpdnaaGreatDoor
