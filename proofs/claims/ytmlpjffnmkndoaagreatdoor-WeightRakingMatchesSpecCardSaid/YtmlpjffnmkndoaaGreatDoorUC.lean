/- The plain law: behind Post each cell has its total; the walk of cell. The walks of the reference's power and Near. The plain law of Rake. The walk of the program's fitted with the change that rounds. A state with perhaps a new cell; the walks of the program's Abs and distance. The plain law of Rake's ways; the walk of the program's rakingFault. The walk of the program's Rake. Conditions: the library's table of powers of ten reads as it was laid. Rows in the caller's hands; the walks of the reference's sums and distance from such a row. The walk of the reference's distance. The states of the reference's Rake; its weights as a row of the call's own; Near over a state. Conditions: none beyond what the claim form gives. -/
import Derived.Test.YtmlpjffnmkndoaaGreatDoorUA
import Derived.Test.YtmlpjffnmkndoaaGreatDoorJY
import Derived.Test.YtmlpjffnmkndoaaGreatDoorJE
import Derived.Deep.RegionHeldLaw
import Derived.Test.YtmlpjffnmkndoaaGreatDoorUP
import Derived.Test.YtmlpjffnmkndoaaGreatDoorB9
import Derived.Test.YtmlpjffnmkndoaaGreatDoorBD
import Derived.Test.YtmlpjffnmkndoaaGreatDoorB23
import Derived.Test.YtmlpjffnmkndoaaGreatDoorJZ
import Derived.Test.YtmlpjffnmkndoaaGreatDoorHS
import Derived.Test.YtmlpjffnmkndoaaGreatDoorHR
namespace Go.Proofs.YtmlpjffnmkndoaaGreatDoor
open Go.RowKit
set_option linter.unusedVariables false
set_option linter.unusedSimpArgs false
theorem ratB_le {n d : ByteArray} (h : RatOk n d) : dV (bodyB n).data.toList ≤ p10 2000 ∧ dV d.data.toList ≤ p10 2000 := by
 have h1 : ∀ {s : Nat}, s ≤ 2000 → 10 ^ s ≤ p10 2000 := fun h => p10_mono h
 exact ⟨Nat.le_trans (Nat.le_of_lt h.num_lt) (h1 h.s1), Nat.le_trans (Nat.le_of_lt h.den_lt) (h1 h.s2)⟩
theorem p10_pos {k : Nat} : 1 ≤ p10 k := Nat.pow_pos (by decide)
theorem SmS.sta (E : TypeId) (w0 : World) (φ0 : Phi) (b c : Nat) (cs : Array Value) : Sta (fun φ W => SmS E w0 φ0 φ b c cs W) := ⟨fun h => h.s.inv.fz, fun h hi => h.call hi⟩
set_option maxRecDepth 100000 in
set_option maxHeartbeats 4000000 in
theorem cell_any {M : Nat} (hD : Hid (RdivOk M)) (hM : LenB M) {B : Nat} (hB1 : 1 ≤ B) {n : Nat} (hM1 : n * B * B ^ n ≤ M) (hM2 : B ^ n ≤ M) {mi : Nat} {al : Option Addr} {cl : Nat} {l : List Psn} {aw : Option Addr} {cw : Nat} {L : List Rti} {w : World} {φ : Phi} (hφ : Fz φ w) (sl : SlV φ al cl l) (hn : Hid (l.length = n)) (sw : SlV φ aw cw L) (hw : Hid (L.length = n)) (hn3 : n ≤ 3000) (hmi : mi ≤ 8) {nt : Nat} (hnt : nt ≤ 40) (hc : Hid (∀ j, j < n → mi < (l.getD j psn0).2.1.length ∧ ∃ c : Nat, c < nt ∧ celI l mi j = (c : Int))) (hLk : Hid (∀ k, k < n → RatOk (L.getD k rti0).1 (L.getD k rti0).2)) (hLb : Hid (∀ k, k < n → dV (bodyB (L.getD k rti0).1).data.toList ≤ B ∧ dV (L.getD k rti0).2.data.toList ≤ B)) {v : Nat → Rat} (hv : Hid (∀ k, k < n → ratX (L.getD k rti0).1 (L.getD k rti0).2 = v k)) {c : Nat} (hc40 : c ≤ 40) :
  Calls Tryz.prog 10 #[.slice al n cl, .slice aw n cw, .int .i64 (mi : Int), .int .i64 (c : Int)] w (FrXP (celQ v l mi (c : Int) n) (n * B * B ^ n) (B ^ n) φ w) := by
 have hbd : Hid (∀ k, k < n → (k * B * B ^ k * B + B * B ^ k ≤ M ∧ B ^ k * B ≤ M) ∧ (k * B * B ^ k * B + B * B ^ k ≤ (k + 1) * B * B ^ (k + 1) ∧ B ^ k * B ≤ B ^ (k + 1)) ∧ k * B * B ^ k ≤ (k + 1) * B * B ^ (k + 1) ∧ B ^ k ≤ B ^ (k + 1)) := Lib.hid (fun k hk =>
  ⟨⟨Nat.le_trans (sumB_step hB1) (Nat.le_trans (sumB_mono hB1 hk) hM1), by rw [← Nat.pow_succ]; exact Nat.le_trans (powB_mono hB1 hk) hM2⟩, ⟨sumB_step hB1, Nat.le_of_eq (Nat.pow_succ ..).symm⟩, sumB_mono hB1 (Nat.le_succ k), powB_mono hB1 (Nat.le_succ k)⟩)
 have h00 : Hid ((0 : Nat) * B * B ^ 0 = 0 ∧ B ^ 0 = 1) := Lib.hid ⟨by simp, by simp⟩
 have HSL := Lib.hid sl
 have HSW := Lib.hid sw
 have hC0 := Lib.hid (fun (ψ : Phi) W (hf : Fz ψ W) => RWhole_any (n := 0) (by decide) (by decide) hf)
 rw [show ((0 : Int) : Rat) = 0 from rfl, show (0 : Int).natAbs = 0 from rfl] at hC0
 have hRS := Lib.hid (RsSt.start (Inv.start hφ) #[.bool false, .slice none 0 0, .slice none 0 0] 36)
 clear hφ sl sw hM1 hM2
 go_enter Tryz.func10, Tryz.ntmps10
 go_upto_region 1 with fail
 generalize w.alloc (.cells #[.bool false, .slice none 0 0, .slice none 0 0] 36) = wx at *
 obtain ⟨b2, hb2⟩ : ∃ b, w.heap.size = b := ⟨_, rfl⟩
 rw [hb2] at hRS ⊢
 have HB2 := Lib.hid hb2
 clear hb2
 go_upto_region 2 with (go_at_call 37; (with_reducible refine (hC0.out φ _ hRS.out.inv.fz).mono ?_); rintro e w4 ⟨v4, φ4, rfl, hi4, hv4⟩; obtain ⟨g4, n4, m4, k4, k5, a4, c4, a5, c5, rfl, _⟩ := hv4.open; have hR4 := hRS.out.call hi4; have hS4 := Lib.hid (SmS.mk (hR4.callB ((Below.refl _ _).alloc (Nat.le_refl _) (.cells #[.bool g4, .slice a4 k4 c4, .slice a5 k5 c5] 36))) (RsSt.start hR4.inv #[.bool g4, .slice a4 k4 c4, .slice a5 k5 c5] 36) (by have := hR4.k.lt; omega)); have HV4 := Lib.hid hv4; have L4 := Lib.hid hi4.le; clear hi4 hv4 hR4)
 generalize w4.alloc (.cells #[.bool g4, .slice a4 k4 c4, .slice a5 k5 c5] 36) = wb at *
 generalize w4.heap.size = b3 at *
 clear hRS hC0
 go_wp2
 go_loopw [15] (fun iv wr => ∃ (k : Nat) (φ' : Phi) (g : Bool) (a1 : Option Addr) (k1 c1 : Nat) (a2 : Option Addr) (k2 c2 : Nat), k ≤ n ∧ iv = .int .i64 (k : Int) ∧ Hid (SmS 36 w φ φ' b2 b3 #[.bool g, .slice a1 k1 c1, .slice a2 k2 c2] wr) ∧ Hid (FrX φ' (.agg #[.bool g, .slice a1 k1 c1, .slice a2 k2 c2]) (celQ v l mi (c : Int) k) (k * B * B ^ k) (B ^ k))) (fun iv _ => n - (intOf iv).toNat)
 case atStart => exact ⟨0, φ4, g4, a4, k4, c4, a5, k5, c5, Nat.zero_le _, rfl, hS4, Lib.hid (by rw [h00.out.1, h00.out.2]; exact HV4.out)⟩
 case round =>
  clear hS4 HV4
  obtain ⟨j, φ', g1, a1, k1, c1, a2, k2, c2, hj, rfl, hS, hV⟩ := hrel
  by_cases hjl : j < n
  ·have hjli : (j : Int) < (n : Int) := by omega
   obtain ⟨b, off, rfl, fp⟩ := HSL.out.psnsD hn hjl
   obtain ⟨ac, cc, sc, f2⟩ := fp j hjl
   obtain ⟨d0, d1, d2, d3, d4, d5⟩ := f2 wr (hS.out.s.inv.fz.sub hS.out.s.inv.le)
   obtain ⟨hml', ct, hct, hce⟩ := hc.out j hjl
   have hce2 : Hid (celI l mi j = (ct : Int)) := Lib.hid hce
   unfold celI at hce
   generalize l.getD j psn0 = p at *
   obtain ⟨⟨s1, t1⟩, cs, x, y, z⟩ := p
   dsimp only at d0 d1 d2 d3 d4 d5 sc hce hml'
   obtain ⟨mc, hmc⟩ : ∃ m, cs.length = m := ⟨_, rfl⟩
   rw [hmc] at d2 hml'
   have hcn := Lib.hid hmc
   have hmcc : mc ≤ 9223372036854775807 := by have h1 := sc.capn; have h2 := sc.capm; rw [hmc] at h1; unfold maxLen at h2; omega
   obtain ⟨bc, oc, rfl, fc⟩ := sc.intsD hcn hml'
   have FC := Lib.hid (fc mi hml')
   rw [hce] at FC
   obtain ⟨φp, lp, ip, ep⟩ := (Inv.start hS.out.s.inv.fz).frz (.cells #[.string s1, .string t1, .slice (some ⟨bc, oc, none⟩) mc cc, .int .i64 x, .int .i64 y, .int .i64 z] 76)
   have hS1 := Lib.hid (hS.out.call ip)
   have LP := Lib.hid lp
   have EP := Lib.hid ep
   have hmii : (mi : Int) < (mc : Int) := by omega
   have d9 : (wr.alloc (.cells #[.string s1, .string t1, .slice (some ⟨bc, oc, none⟩) mc cc, .int .i64 x, .int .i64 y, .int .i64 z] 76)).cell? ⟨bc, oc + mi, none⟩ = some (.int .i64 (ct : Int)) := (FC.out _ (hS1.out.s.inv.fz.sub hS1.out.s.inv.le)).2
   have HV1 := Lib.hid (hV.out.mono lp)
   obtain ⟨⟨q1, q2⟩, ⟨q3, q4⟩, q5, q6⟩ := hbd.out j hjl
   have MA1 := Lib.hid (And.intro q1 q2)
   have MA2 := Lib.hid (And.intro q3 q4)
   have MO := Lib.hid (And.intro q5 q6)
   clear fp f2 hmc fc ip ep lp hS hce hV q1 q2 q3 q4 q5 q6
   go_upto_region 5 with fail
   generalize wr.alloc (.cells #[.string s1, .string t1, .slice (some ⟨bc, oc, none⟩) mc cc, .int .i64 x, .int .i64 y, .int .i64 z] 76) = wz at *
   generalize wr.heap.size = b5 at *
   clear d0 d1 d2 d3 d4 d5
   have x2 : wz.cell? ⟨b5, 2, none⟩ = some (.slice (some ⟨bc, oc, none⟩) mc cc) := box_cell EP.out φp.le_refl hS1.out.s.inv.fz 2
   by_cases hcc : ct = c
   ·subst hcc
    obtain ⟨bL, oL, rfl, fl⟩ := HSW.out.rtisD hw hjl
    have FLJ := Lib.hid (fl j hjl)
    have HOK := Lib.hid (hLk.out j hjl)
    have HN1 := Lib.hid (hLb.out j hjl)
    have HX1 := Lib.hid (hv.out j hjl)
    generalize (L.getD j rti0).1 = sj at *
    generalize (L.getD j rti0).2 = tj at *
    have PQ := Lib.hid (celQ_yes (w := v) hce2.out)
    clear fl
    go_upto_region 6 with fail
    clear x2 d9
    have hP1 := SmS.sta 36 w φ b2 b3 #[.bool g1, .slice a1 k1 c1, .slice a2 k2 c2]
    have SDd : Hid (SmS 36 w φ φp b2 b3 #[.bool g1, .slice a1 k1 c1, .slice a2 k2 c2] wz.drew) := Lib.hid (hS1.out.callB (bdrewN (Below.refl _ wz) 1))
    have hcf := Lib.hid (fun (ψ : Phi) (W : World) (hs : Hid (SmS 36 w φ ψ b2 b3 #[.bool g1, .slice a1 k1 c1, .slice a2 k2 c2] W)) => (⟨(FLJ.out W (hs.out.s.inv.fz.sub hs.out.s.inv.le)).1, (FLJ.out W (hs.out.s.inv.fz.sub hs.out.s.inv.le)).2, hs.out.s.k.cell 0, hs.out.s.k.cell 1, hs.out.s.k.cell 2⟩ : W.cell? ⟨bL, oL + j * 2, none⟩ = some (.string sj) ∧ W.cell? ⟨bL, oL + j * 2 + 1, none⟩ = some (.string tj) ∧ W.cell? ⟨b3, 0, none⟩ = some (.bool g1) ∧ W.cell? ⟨b3, 1, none⟩ = some (.slice a1 k1 c1) ∧ W.cell? ⟨b3, 2, none⟩ = some (.slice a2 k2 c2)))
    obtain ⟨y0, y1', y2, y3, y4⟩ := hcf.out φp wz hS1
    obtain ⟨x0, x1', x2, x3, x4⟩ := hcf.out φp wz.drew SDd
    apply wp_region_cutV (fun (i : Value × Bool × Option Addr × Nat × Nat × Option Addr × Nat × Nat) => [(27, .agg #[.bool g1, .slice a1 k1 c1, .slice a2 k2 c2]), (28, .slice (some ⟨bL, oL, none⟩) n cw), (29, .int .i64 (j : Int)), (30, .pointer (some ⟨bL, oL + j * 2, none⟩)), (31, .agg #[.string sj, .string tj]), (32, i.1), (33, .agg #[.bool i.2.1, .slice i.2.2.1 i.2.2.2.1 i.2.2.2.2.1, .slice i.2.2.2.2.2.1 i.2.2.2.2.2.2.1 i.2.2.2.2.2.2.2])])
     (fun i W => Hid (∃ φD, φp.le φD ∧ SmS 36 w φ φD b2 b3 #[.bool i.2.1, .slice i.2.2.1 i.2.2.2.1 i.2.2.2.2.1, .slice i.2.2.2.2.2.1 i.2.2.2.2.2.2.1 i.2.2.2.2.2.2.2] W ∧ FrX φD (.agg #[.bool i.2.1, .slice i.2.2.1 i.2.2.2.1 i.2.2.2.2.1, .slice i.2.2.2.2.2.1 i.2.2.2.2.2.2.1 i.2.2.2.2.2.2.2]) (celQ v l mi (ct : Int) j + v j) ((j + 1) * B * B ^ (j + 1)) (B ^ (j + 1))))
    case h1 =>
     intro KK hKK
     go_region_law (first
      | (go_simp; go_at_call 38; (with_reducible refine (RPlus_P hP1 hD hM HV1 LA VA MA1 MA2 SA).mono ?_); rintro e wB ⟨gB, aB, kB, cB, aB', kB', cB', φB, rfl, SB, LB, VB⟩; have rf0 := SB.out.s.k.frz 0; have rf1 := SB.out.s.k.frz 1; have rf2 := SB.out.s.k.frz 2; obtain ⟨o0, o1, o2, o3, o4⟩ := hcf.out φB wB SB)
      | (go_simp; go_at_call 12; (with_reducible refine (RFracOf_P hP1 HOK HX1 HN1 SDd).mono ?_); rintro e wA ⟨gA, aA, kA, cA, aA', kA', cA', φA, rfl, SA, LA, VA⟩; obtain ⟨n0, n1, n2, n3, n4⟩ := hcf.out φA wA SA)
      | fail)
     all_goals
      refine onlyN_mk ?_
      have hk9 := fun W s => hKK.out (.agg #[.bool gA, .slice aA kA cA, .slice aA' kA' cA'], gB, aB, kB, cB, aB', kB', cB') W s
      simp only [updA, List.foldl_cons, List.foldl_nil, List.setIfInBounds_toArray, List.set_cons_succ, List.set_cons_zero] at hk9
      exact hk9 _ (Lib.hid ⟨φB, LA.out.trans LB.out, ((SB.out.set 0 _).set 1 _).set 2 _, VB.out⟩)
    case h2 =>
     rintro ⟨vA, g5, a5, k5, c5, a6, k6, c6⟩ wE hE
     simp only [updA, List.foldl_cons, List.foldl_nil, List.setIfInBounds_toArray, List.set_cons_succ, List.set_cons_zero]
     obtain ⟨φD, hlD, hSD, hVD⟩ := hE.out
     have SE := Lib.hid hSD
     have PA : Hid (FrX φD (.agg #[.bool g5, .slice a5 k5 c5, .slice a6 k6 c6]) (celQ v l mi (ct : Int) (j + 1)) ((j + 1) * B * B ^ (j + 1)) (B ^ (j + 1))) := Lib.hid (by rw [PQ.out]; exact hVD)
     clear hE hlD hSD hVD x0 x1' x2 x3 x4 y0 y1' y2 y3 y4 hcf hP1 SDd hS1 HV1
     go_wp2
     go_roundw
     case rel => exact ⟨j + 1, φD, g5, a5, k5, c5, a6, k6, c6, by omega, by go_num, SE, PA⟩
     case measure => (simp [intOf] <;> omega)
   ·have hcj : ((ct : Int) == (c : Int)) = false := by simp; omega
    have PA : Hid (FrX φp (.agg #[.bool g1, .slice a1 k1 c1, .slice a2 k2 c2]) (celQ v l mi (c : Int) (j + 1)) ((j + 1) * B * B ^ (j + 1)) (B ^ (j + 1))) := Lib.hid (by rw [celQ_no (by rw [hce2.out]; omega)]; exact HV1.out.le MO.out.1 MO.out.2)
    clear hcc
    go_wp2
    go_roundw
    case rel => exact ⟨j + 1, φp, g1, a1, k1, c1, a2, k2, c2, by omega, by go_num, hS1, PA⟩
    case measure => (simp [intOf] <;> omega)
  ·obtain rfl : j = n := by omega
   have z0 : wr.cell? ⟨b3, 0, none⟩ = some (.bool g1) := hS.out.s.k.cell 0
   have z1 : wr.cell? ⟨b3, 1, none⟩ = some (.slice a1 k1 c1) := hS.out.s.k.cell 1
   have z2 : wr.cell? ⟨b3, 2, none⟩ = some (.slice a2 k2 c2) := hS.out.s.k.cell 2
   obtain ⟨y0, y1, y2, y3, y4, y5⟩ := hS.out.r.facts
   go_wp2
   have hIZ := Lib.hid (((hS.out.r.inv.setCell hS.out.r.l hS.out.r.f (off := 0) (Value.bool g1)).setCell hS.out.r.l hS.out.r.f (off := 1) (Value.slice a1 k1 c1)).setCell hS.out.r.l hS.out.r.f (off := 2) (Value.slice a2 k2 c2))
   have hBZ := Lib.hid (((hS.out.r.k.set 0 (Value.bool g1)).set 1 (Value.slice a1 k1 c1)).set 2 (Value.slice a2 k2 c2))
   have e0 : _ = some (Value.bool g1) := hBZ.out.cell 0
   have e1 : _ = some (Value.slice a1 k1 c1) := hBZ.out.cell 1
   have e2 : _ = some (Value.slice a2 k2 c2) := hBZ.out.cell 2
   (try simp only [Exit.inBlock, Exit.then])
   refine bodyPost_ret (v := .agg #[(Value.bool g1), (Value.slice a1 k1 c1), (Value.slice a2 k2 c2)]) (by simp [results, Tryz.results10, go_sem, e0, e1, e2]) rfl ?_
   exact ⟨_, φ', rfl, hIZ.out, hV.out⟩
section
variable {P : Phi → World → Prop} {φ : Phi} {W : World} {M : Nat}
theorem cell_P (hP : Sta P) (hD : Hid (RdivOk M)) (hM : LenB M) {B : Nat} (hB1 : 1 ≤ B) {n : Nat} (hM1 : Hid (n * B * B ^ n ≤ M ∧ B ^ n ≤ M)) {mi : Nat} {al : Option Addr} {cl : Nat} {l : List Psn} {aw : Option Addr} {cw : Nat} {L : List Rti} {ψ : Phi} (hl : Hid (ψ.le φ)) (sl : Hid (SlV ψ al cl l)) (hn : Hid (l.length = n)) (sw : Hid (SlV ψ aw cw L)) (hw : Hid (L.length = n)) (hn3 : n ≤ 3000) (hmi : mi ≤ 8) {nt : Nat} (hnt : nt ≤ 40) (hc : Hid (∀ j, j < n → mi < (l.getD j psn0).2.1.length ∧ ∃ c : Nat, c < nt ∧ celI l mi j = (c : Int))) (hLk : Hid (∀ k, k < n → RatOk (L.getD k rti0).1 (L.getD k rti0).2)) (hLb : Hid (∀ k, k < n → dV (bodyB (L.getD k rti0).1).data.toList ≤ B ∧ dV (L.getD k rti0).2.data.toList ≤ B)) {v : Nat → Rat} (hv : Hid (∀ k, k < n → ratX (L.getD k rti0).1 (L.getD k rti0).2 = v k)) {c : Nat} (hc40 : c ≤ 40) {x : Rat} (hx : Hid (celQ v l mi (c : Int) n = x)) (hS : Hid (P φ W)) :
  Calls Tryz.prog 10 #[.slice al n cl, .slice aw n cw, .int .i64 (mi : Int), .int .i64 (c : Int)] W (FrS P φ x (n * B * B ^ n) (B ^ n)) :=
 (cell_any hD hM hB1 hM1.out.1 hM1.out.2 (hP.fz hS.out) (sl.out.mono hl.out) hn (sw.out.mono hl.out) hw hn3 hmi hnt hc hLk hLb hv hc40).mono (fun en w' hp => by rw [hx.out] at hp; exact FrS.of hP (Nat.le_refl _) (Nat.le_refl _) hS hp)
end
end Go.Proofs.YtmlpjffnmkndoaaGreatDoor

namespace Go.Proofs.YtmlpjffnmkndoaaGreatDoor
open Go.RowKit
set_option linter.unusedVariables false
set_option linter.unusedSimpArgs false
set_option maxHeartbeats 1000000 in
theorem Rpower_any {p P : Nat} (hp : p ≤ 1000) (hP : Hid (10 ^ p = P)) {w : World} {φ : Phi} (hφ : Fz φ w) :
  Calls Tryz.prog 114 #[.int .i64 (p : Int)] w (NatI P φ w) := by
 obtain ⟨z, hz⟩ : ∃ z, Hid (bl (List.replicate p 48) = z) := ⟨_, Lib.hid rfl⟩
 obtain ⟨h1, h2, h3⟩ := ten_all hz.out
 rw [hP.out] at h2
 have H1 := Lib.hid h1
 have H2 := Lib.hid h2
 have h4 : ((⟨#[49]⟩ : ByteArray) ++ z).size ≤ 2000000000 := by rw [h3]; omega
 have hzs : ¬ 9223372036854775807 < 1 + z.size := by rw [← hz.out, bl_size, List.length_replicate]; omega
 have hpi : ((p : Nat) : Int) = p := rfl
 have HI := Lib.hid (Inv.start hφ)
 clear hφ h1 h2 h3
 go_enter Tryz.func114, Tryz.ntmps114
 go_wp2_with (first
  | (go_at_call 51; (with_reducible refine (readNat_any h4 H1 H2 I1.out.fz).mono ?_); rintro e w2 ⟨a2, c2, φ2, rfl, hi2, s2⟩; have I2 := Lib.hid (I1.out.call hi2); have S2 := Lib.hid s2; clear hi2 s2)
  | (go_at_call 105; (with_reducible refine (Repeat0_any hpi hp _).mono ?_); rintro e w1 ⟨rfl, hb1⟩; rw [hz.out]; have I1 := Lib.hid (HI.out.callB hb1); clear hb1)
  | fail)
 go_ret
 exact ⟨a2, c2, φ2, rfl, I2.out, S2.out⟩
set_option maxRecDepth 100000 in
set_option maxHeartbeats 4000000 in
theorem Near_any {M : Nat} (hD : Hid (RdivOk M)) (hM : LenB M) {v : Value} {x : Rat} {N D p P N2 : Nat} (hp : p ≤ 1000) (hP : Hid (10 ^ p = P)) (hP0 : 0 < P) (hM1 : N * P * 2 + D ≤ M) (hM3 : N ≤ M) (hM4 : P ≤ M) (hM5 : N2 ≤ M) (hM6 : D * 2 ≤ M) (hq : rnN x.num.natAbs x.den P ≤ N2) {w : World} {φ : Phi} (hφ : Fz φ w) (hv : FrX φ v x N D) :
  Calls Tryz.prog 74 #[v, .int .i64 (p : Int)] w (FrXP (rndQ P x) N2 P φ w) := by
 obtain ⟨g1, n, d, p1, p2, a1, c1, a2, c2, rfl, s1, s2, l1, l2, hd0, hnN, hdD, hx⟩ := hv.open
 have hqe := rnN_eq (P := P) hd0 hx
 have hre := rnN_rest (n := n) (P := P) hd0
 have b1 : p1 ≤ 1000000000 := by rw [← l1.out]; exact hM.len (by omega)
 have b2 : p2 ≤ 1000000000 := by rw [← l2.out]; exact hM.len (by omega)
 have hnM : n * P * 2 + d ≤ M := Nat.le_trans (Nat.add_le_add (Nat.mul_le_mul_right 2 (Nat.mul_le_mul_right P hnN)) hdD) hM1
 obtain ⟨A, hA⟩ : ∃ A, Hid (n * P = A) := ⟨_, Lib.hid rfl⟩
 rw [hA.out] at hnM hre
 obtain ⟨q, hqq⟩ : ∃ q, Hid (A / d = q) := ⟨_, Lib.hid rfl⟩
 obtain ⟨r, hr⟩ : ∃ r, Hid (A % d = r) := ⟨_, Lib.hid rfl⟩
 obtain ⟨r2, hr2⟩ : ∃ r2, Hid (r + r = r2) := ⟨_, Lib.hid rfl⟩
 have hrd : r < d := by rw [← hr.out]; exact Nat.mod_lt _ hd0
 rw [hqq.out, hr.out, hr2.out] at hre
 obtain ⟨m, hm⟩ : ∃ m, Hid (rnN n d P = m) := ⟨_, Lib.hid rfl⟩
 rw [hm.out] at hre hqe
 have hmN : m ≤ N2 := by rw [hqe]; exact hq
 have hAM : A ≤ M := by omega
 have hdM : d ≤ M := by omega
 have hqM : q ≤ M := by have := Nat.div_le_self A d; rw [hqq.out] at this; omega
 have hmM : m ≤ M := by omega
 have hr2e := hr2.out
 have hr2M : r2 ≤ M := by omega
 have hrM : r ≤ M := by omega
 obtain ⟨kP, hkP⟩ : ∃ k, Hid ((limbs P).length = k) := ⟨_, Lib.hid rfl⟩
 obtain ⟨kA, hkA⟩ : ∃ k, Hid ((limbs A).length = k) := ⟨_, Lib.hid rfl⟩
 obtain ⟨kq, hkq⟩ : ∃ k, Hid ((limbs q).length = k) := ⟨_, Lib.hid rfl⟩
 obtain ⟨kr, hkr⟩ : ∃ k, Hid ((limbs r).length = k) := ⟨_, Lib.hid rfl⟩
 obtain ⟨kr2, hkr2⟩ : ∃ k, Hid ((limbs r2).length = k) := ⟨_, Lib.hid rfl⟩
 obtain ⟨km, hkm⟩ : ∃ k, Hid ((limbs m).length = k) := ⟨_, Lib.hid rfl⟩
 obtain ⟨k1, hk1⟩ : ∃ k, Hid ((limbs 1).length = k) := ⟨_, Lib.hid rfl⟩
 have b4 : kP ≤ 1000000000 := by rw [← hkP.out]; exact hM.len hM4
 have b6 : kq ≤ 1000000000 := by rw [← hkq.out]; exact hM.len hqM
 have b7 : kr ≤ 1000000000 := by rw [← hkr.out]; exact hM.len hrM
 have b8 : kr2 ≤ 1000000000 := by rw [← hkr2.out]; exact hM.len hr2M
 have b9 : k1 ≤ 1000000000 := by rw [← hk1.out]; exact hM.len (by omega)
 have hDv := Lib.hid (fun (a1 a2 : Option Addr) (c1 c2 : Nat) (ψ : Phi) (W : World) (hf : Fz ψ W) (s1 : SlV ψ a1 c1 (limbs A)) (s2 : SlV ψ a2 c2 (limbs d)) => hD.out A d _ _ a1 a2 c1 c2 W ψ hf s1 s2 hkA l2 hAM hdM hd0)
 rw [hqq.out, hr.out] at hDv
 have hC1 : Hid (∀ (ψ : Phi) (W : World), Fz ψ W → Calls Tryz.prog 80 #[.int .i64 1] W (NatI 1 ψ W)) := Lib.hid (fun ψ W hf => Rsmall_any 1 (by decide) W ψ hf)
 have hg0 : 0 < Nat.gcd m P := gcd_dle hP0
 obtain ⟨g, hg⟩ : ∃ g, Hid (Nat.gcd m P = g) := ⟨_, Lib.hid rfl⟩
 rw [hg.out] at hg0
 obtain ⟨ng, hng⟩ : ∃ b, Hid ((g1 && decide (m / g ≠ 0)) = b) := ⟨_, Lib.hid rfl⟩
 obtain ⟨q1, hq1⟩ : ∃ k, Hid ((limbs (m / g)).length = k) := ⟨_, Lib.hid rfl⟩
 obtain ⟨q2, hq2⟩ : ∃ k, Hid ((limbs (P / g)).length = k) := ⟨_, Lib.hid rfl⟩
 have hfin : Hid (0 < P / g ∧ m / g ≤ N2 ∧ P / g ≤ P ∧ rat ng (m / g) (P / g) = rndQ P x) := Lib.hid (by
  have hgd : g ∣ P := by rw [← hg.out]; exact Nat.gcd_dvd_right m P
  refine ⟨Nat.div_pos (Nat.le_of_dvd hP0 hgd) hg0, Nat.le_trans (Nat.div_le_self m g) hmN, Nat.div_le_self P g, ?_⟩
  have h9 := rndQ_rep (P := P) (s := g1) hd0 hx (fun _ => rfl)
  rw [hm.out] at h9
  rw [← hng.out, rat_lowest hg0 (by rw [← hg.out]; exact Nat.gcd_dvd_left m P) hgd, h9])
 have hCl := Lib.hid (fun (a1 a2 : Option Addr) (c1 c2 : Nat) (ψ : Phi) (W : World) (hf : Fz ψ W) (s1 : SlV ψ a1 c1 (limbs m)) (s2 : SlV ψ a2 c2 (limbs P)) => (Rlowest_any (neg := g1) hD hf s1 s2 hkm hkP hmM hM4 hP0 hM))
 rw [hg.out, hng.out] at hCl
 obtain ⟨φ1, hle1, hi1, hb1⟩ := (Inv.start hφ).frz (.cells #[.bool g1, .slice a1 p1 c1, .slice a2 p2 c2] 36)
 have hS0 : Hid (FpS 36 w φ φ1 φ1 (w.heap.size + 1) _) := Lib.hid ⟨by have := RsSt.start hi1 #[.bool false, .slice none 0 0, .slice none 0 0] 36; rw [alloc_sz] at this; exact this, φ1.le_refl⟩
 have S1 := Lib.hid (s1.mono hle1)
 have S2 := Lib.hid (s2.mono hle1)
 have HB1 := Lib.hid hb1
 clear s1 s2 hle1 hi1 hb1 hφ hx hv hq hqe hM1 hM3 hnN hdD hr2e hg0
 go_enter Tryz.func74, Tryz.ntmps74
 go_upto_region 1 with fail
 generalize (w.alloc (Obj.cells #[Value.bool g1, Value.slice a1 p1 c1, Value.slice a2 p2 c2] 36)).alloc (Obj.cells #[Value.bool false, Value.slice none 0 0, Value.slice none 0 0] 36) = wx at *
 obtain ⟨bb, hbb⟩ : ∃ b, w.heap.size = b := ⟨_, rfl⟩
 have HBB := Lib.hid hbb
 rw [hbb] at HB1 hS0 ⊢
 clear hbb
 have hbox := Lib.hid (fun (φ3 : Phi) (W : World) (h : Hid (FpS 36 w φ φ1 φ3 (bb + 1) W)) => box3 HB1.out h.out.le h.out.fz)
 go_upto_region 2 with (go_at_call 114; (with_reducible refine (Rpower_any hp hP hS0.out.fz).mono ?_); rintro e w1 ⟨a3, c3, φ0, rfl, hi1, hs1⟩; rw [hkP.out]; have H1 := Lib.hid (hS0.out.call hi1); have SP := Lib.hid hs1; clear hi1 hs1)
 have hS1 : Hid (FpS 36 w φ φ1 φ0 (bb + 1) w1.drew) := Lib.hid (H1.out.callB (bdrewN (Below.refl _ w1) 1))
 obtain ⟨x0, x1, x2⟩ := hbox.out _ _ hS1
 obtain ⟨z0, z1, z2⟩ := hbox.out _ _ H1
 go_region_held3 (fun w' => w'.cell? ⟨bb, 0, none⟩ = some (.bool g1) ∧ w'.cell? ⟨bb, 1, none⟩ = some (.slice a1 p1 c1) ∧ w'.cell? ⟨bb, 2, none⟩ = some (.slice a2 p2 c2)) (first | done | with_reducible exact ⟨x0, x1, x2⟩ | with_reducible exact ⟨by assumption, by assumption, by assumption⟩ | fail) (first
  | ((with_reducible refine (hDv.out _ _ _ _ _ _ H2.out.fz SA.out (S2.out.mono H2.out.le)).mono ?_); rintro e w3 ⟨a5, c5, a6, c6, φ3, rfl, hi3, hs3, hs4⟩; rw [hkq.out, hkr.out]; have H3 := Lib.hid (H2.out.call hi3); have SQ := Lib.hid hs3; have SR := Lib.hid hs4; have L3 := Lib.hid (L2.out.trans hi3.le); obtain ⟨y0, y1, y2⟩ := hbox.out _ _ H3)
  | ((with_reducible refine (Rtimes_any (m := n) (n := P) hS1.out.fz (S1.out.mono hS1.out.le) SP.out l1 hkP (by omega) (by omega)).mono ?_); rintro e w2 ⟨a4, c4, φ2, rfl, hi2, hs2⟩; rw [hA.out, hkA.out]; rw [hA.out] at hs2; have H2 := Lib.hid (hS1.out.call hi2); have SA := Lib.hid hs2; have L2 := Lib.hid hi2.le; obtain ⟨y0, y1, y2⟩ := hbox.out _ _ H2)
  | fail)
 have SP3 := Lib.hid (SP.out.mono L3.out)
 clear x0 x1 x2 z0 z1 z2 H1 H2 SA
 go_upto_region 3 with fail
 have hS3 : Hid (FpS 36 w φ φ1 φ3 (bb + 1) w3.drew) := Lib.hid (H3.out.callB (bdrewN (Below.refl _ w3) 1))
 obtain ⟨x0, x1, x2⟩ := hbox.out _ _ hS3
 obtain ⟨z0, z1, z2⟩ := hbox.out _ _ H3
 obtain ⟨o, ho⟩ : ∃ o, Hid (cmpN r2 d = o) := ⟨_, Lib.hid rfl⟩
 go_region_held3 (fun w' => w'.cell? ⟨bb, 0, none⟩ = some (.bool g1) ∧ w'.cell? ⟨bb, 1, none⟩ = some (.slice a1 p1 c1) ∧ w'.cell? ⟨bb, 2, none⟩ = some (.slice a2 p2 c2)) (first | done | with_reducible exact ⟨x0, x1, x2⟩ | with_reducible exact ⟨by assumption, by assumption, by assumption⟩ | fail) (first
  | ((with_reducible refine (Rorder_any (m := r2) (n := d) H4.out.fz SR2.out (S2.out.mono H4.out.le) hkr2 l2 (by omega) (by omega) ho).mono ?_); rintro e w5 ⟨rfl, hb5⟩; have H5 := Lib.hid (H4.out.callB hb5); obtain ⟨y0, y1, y2⟩ := hbox.out _ _ H5)
  | ((with_reducible refine (Rplus_any (m := r) (n := r) hS3.out.fz SR.out SR.out hkr hkr (by omega) (by omega)).mono ?_); rintro e w4 ⟨a7, c7, φ4, rfl, hi4, hs4⟩; rw [hr2.out, hkr2.out]; rw [hr2.out] at hs4; have H4 := Lib.hid (hS3.out.call hi4); have SR2 := Lib.hid hs4; have L4 := Lib.hid hi4.le; obtain ⟨y0, y1, y2⟩ := hbox.out _ _ H4)
  | fail)
 have SQ5 := Lib.hid (SQ.out.mono L4.out)
 have SP5 := Lib.hid (SP3.out.mono L4.out)
 clear x0 x1 x2 z0 z1 z2 hS3 H4 H3
 obtain ⟨v0, v1, v2⟩ := hbox.out _ _ H5
 by_cases hdr : d ≤ r2
 ·have hoi : 0 ≤ o := by
   rw [← ho.out]; unfold cmpN
   rw [if_neg (by omega)]
   split <;> omega
  rw [if_pos hdr] at hre
  have hme : Hid (q + 1 = m) := Lib.hid hre.symm
  clear hre hdr
  go_upto_region 5 with (first
   | (go_at_call 82; (with_reducible refine (Rplus_any (m := q) (n := 1) H6.out.fz (SQ5.out.mono L6.out) ST.out hkq hk1 (by omega) (by omega)).mono ?_); rintro e w7 ⟨a9, c9, φ7, rfl, hi7, hs7⟩; rw [hme.out, hkm.out]; rw [hme.out] at hs7; have H7 := Lib.hid (H6.out.call hi7); have SM := Lib.hid hs7; have SP7 := Lib.hid (SP5.out.mono (L6.out.trans hi7.le)); clear hi7 hs7)
   | (go_at_call 80; (with_reducible refine (hC1.out _ _ H5.out.fz).mono ?_); rintro e w6 ⟨a8, c8, φ6, rfl, hi6, hs6⟩; rw [hk1.out]; have H6 := Lib.hid (H5.out.call hi6); have ST := Lib.hid hs6; have L6 := Lib.hid hi6.le; clear hi6 hs6)
   | fail)
  clear v0 v1 v2
  obtain ⟨v0, v1, v2⟩ := hbox.out _ _ H7
  go_wp2_with (go_at_call 116; (with_reducible refine (hCl.out _ _ _ _ _ _ H7.out.fz SM.out SP7.out).mono ?_); rintro e w11 ⟨a11, c11, a12, c12, φ11, rfl, hi11, hs11, hs12⟩; rw [hq1.out, hq2.out]; have H11 := Lib.hid (H7.out.call hi11); obtain ⟨y0, y1, y2, y3, y4, y5⟩ := H11.out.rs.facts)
  have hIZ := Lib.hid (((H11.out.rs.inv.setCell H11.out.rs.l H11.out.rs.f (off := 0) (Value.bool ng)).setCell H11.out.rs.l H11.out.rs.f (off := 1) (Value.slice a11 q1 c11)).setCell H11.out.rs.l H11.out.rs.f (off := 2) (Value.slice a12 q2 c12))
  have hBZ := Lib.hid (((H11.out.rs.k.set 0 (Value.bool ng)).set 1 (Value.slice a11 q1 c11)).set 2 (Value.slice a12 q2 c12))
  have e0 : _ = some (Value.bool ng) := hBZ.out.cell 0
  have e1 : _ = some (Value.slice a11 q1 c11) := hBZ.out.cell 1
  have e2 : _ = some (Value.slice a12 q2 c12) := hBZ.out.cell 2
  (try simp only [Exit.inBlock, Exit.then])
  refine bodyPost_ret (v := .agg #[(Value.bool ng), (Value.slice a11 q1 c11), (Value.slice a12 q2 c12)]) (by simp [results, Tryz.results74, go_sem, e0, e1, e2]) rfl ?_
  exact ⟨_, φ11, rfl, hIZ.out, ng, m / g, P / g, a11, c11, a12, c12, by rw [hq1.out, hq2.out], hs11, hs12, hfin.out⟩
 ·have hoi : ¬ 0 ≤ o := by
   rw [← ho.out]; unfold cmpN
   rw [if_pos (by omega)]
   omega
  rw [if_neg hdr, Nat.add_zero] at hre
  subst hre
  have hmq : Hid (km = kq) := Lib.hid (hkm.out.symm.trans hkq.out)
  have hkmi := hmq.out
  subst hkmi
  clear hdr
  go_wp2_with (go_at_call 116; (with_reducible refine (hCl.out _ _ _ _ _ _ H5.out.fz SQ5.out SP5.out).mono ?_); rintro e w11 ⟨a11, c11, a12, c12, φ11, rfl, hi11, hs11, hs12⟩; rw [hq1.out, hq2.out]; have H11 := Lib.hid (H5.out.call hi11); obtain ⟨y0, y1, y2, y3, y4, y5⟩ := H11.out.rs.facts)
  have hIZ := Lib.hid (((H11.out.rs.inv.setCell H11.out.rs.l H11.out.rs.f (off := 0) (Value.bool ng)).setCell H11.out.rs.l H11.out.rs.f (off := 1) (Value.slice a11 q1 c11)).setCell H11.out.rs.l H11.out.rs.f (off := 2) (Value.slice a12 q2 c12))
  have hBZ := Lib.hid (((H11.out.rs.k.set 0 (Value.bool ng)).set 1 (Value.slice a11 q1 c11)).set 2 (Value.slice a12 q2 c12))
  have e0 : _ = some (Value.bool ng) := hBZ.out.cell 0
  have e1 : _ = some (Value.slice a11 q1 c11) := hBZ.out.cell 1
  have e2 : _ = some (Value.slice a12 q2 c12) := hBZ.out.cell 2
  (try simp only [Exit.inBlock, Exit.then])
  refine bodyPost_ret (v := .agg #[(Value.bool ng), (Value.slice a11 q1 c11), (Value.slice a12 q2 c12)]) (by simp [results, Tryz.results74, go_sem, e0, e1, e2]) rfl ?_
  exact ⟨_, φ11, rfl, hIZ.out, ng, m / g, P / g, a11, c11, a12, c12, by rw [hq1.out, hq2.out], hs11, hs12, hfin.out⟩
end Go.Proofs.YtmlpjffnmkndoaaGreatDoor

namespace Go.Proofs.YtmlpjffnmkndoaaGreatDoor
open Go.RowKit
set_option linter.unusedVariables false
set_option linter.unusedSimpArgs false
def abQ (x : Rat) : Rat := if x < 0 then -x else x
/-- The greatest distance of a margin's cells from their totals, from o on; of the first margins. -/
noncomputable def dsC (s : Nat → Rat) (T : List Rti) : Nat → Rat → Rat
 | 0, o => o
 | k + 1, o => if dsC s T k o < abQ (s k - ttQ T k) then abQ (s k - ttQ T k) else dsC s T k o
noncomputable def dsM (ws : List Rat) (m : List Mgn) (l : List Psn) (n : Nat) : Nat → Rat
 | 0 => 0
 | i + 1 => dsC (fun c => celQ (fun j => ws.getD j 0) l i (c : Int) n) (m.getD i mgn0).2 (m.getD i mgn0).2.length (dsM ws m l n i)
noncomputable def dsQ (m : List Mgn) (l : List Psn) (ws : List Rat) : Rat := dsM ws m l l.length m.length
section
variable {s : Nat → Rat} {T : List Rti} {k c : Nat} {o : Rat} {m : List Mgn} {l : List Psn} {n i : Nat} {ws : List Rat}
theorem dsC_yes (h : dsC s T k o < abQ (s k - ttQ T k)) : dsC s T (k + 1) o = abQ (s k - ttQ T k) := if_pos h
theorem dsC_no (h : ¬ dsC s T k o < abQ (s k - ttQ T k)) : dsC s T (k + 1) o = dsC s T k o := if_neg h
theorem dsC_step : dsC s T k o ≤ dsC s T (k + 1) o := by
 by_cases h : dsC s T k o < abQ (s k - ttQ T k)
 ·rw [dsC_yes h]; exact Rat.le_of_lt h
 ·rw [dsC_no h]; exact Rat.le_refl
theorem dsC_mono : ∀ k, o ≤ dsC s T k o
 | 0 => Rat.le_refl
 | k + 1 => Rat.le_trans (dsC_mono k) dsC_step
theorem dsC_all : ∀ k, c < k → abQ (s c - ttQ T c) ≤ dsC s T k o
  | 0, h => absurd h (Nat.not_lt_zero c)
  | k + 1, h => by
    by_cases e : c = k
    · subst e
      by_cases h1 : dsC s T c o < abQ (s c - ttQ T c)
      · rw [dsC_yes h1]; exact Rat.le_refl
      · rw [dsC_no h1]; exact Rat.not_lt.1 h1
    · exact Rat.le_trans (dsC_all k (by omega)) dsC_step
theorem dsM_step : dsM ws m l n i ≤ dsM ws m l n (i + 1) := dsC_mono _
theorem dsM_all (h : c < (m.getD i mgn0).2.length) : ∀ k, i < k → abQ (celQ (fun j => ws.getD j 0) l i (c : Int) n - ttQ (m.getD i mgn0).2 c) ≤ dsM ws m l n k
  | 0, hk => absurd hk (Nat.not_lt_zero i)
  | k + 1, hk => by
    by_cases e : i = k
    · subst e
      exact dsC_all (s := fun c => celQ (fun j => ws.getD j 0) l i (c : Int) n) _ h
    · exact Rat.le_trans (dsM_all h k (by omega)) dsM_step
end
/-- The weights behind the first margins of a round; behind rounds. -/
noncomputable def rkP (P : Nat) (m : List Mgn) (l : List Psn) (n : Nat) (ws : List Rat) : Nat → List Rat
 | 0 => ws
 | i + 1 => fitL (rndQ P) (rkP P m l n ws i) l i (m.getD i mgn0).2 n n
noncomputable def rkW (P : Nat) (m : List Mgn) (l : List Psn) (n : Nat) : Nat → List Rat
 | 0 => wsL l n
 | t + 1 => rkP P m l n (rkW P m l n t) m.length
/-- How many rounds: those ahead of the first at which g is false, at most R. -/
def rkS (g : Nat → Bool) : Nat → Nat → Nat
 | 0, t => t
 | f + 1, t => if g t then rkS g f (t + 1) else t
theorem rkS_eq {g : Nat → Bool} {R t : Nat} (h : ∀ s, s < t → g s = true) (ht : t ≤ R) (he : t = R ∨ g t = false) : rkS g R 0 = t := by
  have key : ∀ f k, k ≤ t → f + k = R → rkS g f k = t := by
    intro f
    induction f with
    | zero => intro k hk e; show k = t; omega
    | succ f ih =>
      intro k hk e
      show (if g k then rkS g f (k + 1) else k) = t
      by_cases e2 : k = t
      · subst e2
        rcases he with he | he
        · omega
        · rw [he]; rfl
      · rw [h k (by omega), if_pos rfl]
        exact ih (k + 1) (by omega) (by omega)
  exact key R 0 (Nat.zero_le _) (by omega)
theorem rkS_spec {g : Nat → Bool} : ∀ (f t : Nat), (rkS g f t = t + f ∨ g (rkS g f t) = false) ∧ rkS g f t ≤ t + f
  | 0, t => ⟨.inl rfl, Nat.le_refl _⟩
  | f + 1, t => by
    show ((if g t then rkS g f (t + 1) else t) = t + (f + 1) ∨ g (if g t then rkS g f (t + 1) else t) = false) ∧ (if g t then rkS g f (t + 1) else t) ≤ t + (f + 1)
    cases hg : g t
    · simp only [Bool.false_eq_true, if_false]
      exact ⟨.inr hg, by omega⟩
    · simp only [if_true]
      have := rkS_spec f (t + 1) (g := g)
      rw [show t + 1 + f = t + (f + 1) from by omega] at this
      exact this
theorem fitL_get {ch : Rat → Rat} {ws : List Rat} {l : List Psn} {mi : Nat} {T : List Rti} {n k j : Nat} (hj : j < k) : (fitL ch ws l mi T n k).getD j 0 = fitX ch ws l mi T n j := by simp [fitL, hj]
section
variable {ws : List Rat} {l : List Psn} {i n P : Nat} {T : List Rti} {B : Nat}
theorem fit_bd {j : Nat} {c : Nat} (hw : ∀ j, j < n → 0 ≤ ws.getD j 0) (hT : 0 ≤ ttQ T c ∧ ttQ T c ≤ ((B : Int) : Rat)) (hj : j < n) (hc : celI l i j = (c : Int)) (h0 : celQ (fun j => ws.getD j 0) l i (c : Int) n ≠ 0) : 0 ≤ ws.getD j 0 * (ttQ T c / celQ (fun j => ws.getD j 0) l i (c : Int) n) ∧ ws.getD j 0 * (ttQ T c / celQ (fun j => ws.getD j 0) l i (c : Int) n) ≤ ((B : Int) : Rat) := by
 have h1 := celQ_nn (w := fun j => ws.getD j 0) (l := l) (mi := i) (c := (c : Int)) hw n (Nat.le_refl _)
 have h2 := celQ_ge (w := fun j => ws.getD j 0) (l := l) (mi := i) hw hc n (Nat.le_refl _) hj
 have h3 := hw j hj
 generalize celQ (fun j => ws.getD j 0) l i (c : Int) n = S at *
 generalize ws.getD j 0 = w at *
 generalize ttQ T c = t at *
 have hS : 0 < S := by
  rcases Rat.le_iff_lt_or_eq.1 h1 with q | q
  ·exact q
  ·exact absurd q.symm h0
 have hq : 0 ≤ t / S := by rw [Rat.div_def]; exact Rat.mul_nonneg hT.1 (Rat.le_of_lt (Rat.inv_pos.2 hS))
 refine ⟨Rat.mul_nonneg h3 hq, Rat.le_trans (Rat.mul_le_mul_of_nonneg_right h2 hq) ?_⟩
 rw [Rat.mul_comm, Rat.div_mul_cancel h0]
 exact hT.2
theorem fit_nn (hw : ∀ j, j < n → 0 ≤ ws.getD j 0) (hT : ∀ c, 0 ≤ ttQ T c ∧ ttQ T c ≤ ((B : Int) : Rat)) (hc : ∀ j, j < n → ∃ c : Nat, celI l i j = (c : Int)) : ∀ j, j < n → 0 ≤ (fitL (rndQ P) ws l i T n n).getD j 0 := by
 intro j hj
 rw [fitL_get hj]
 obtain ⟨c, hcj⟩ := hc j hj
 unfold fitX
 rw [hcj, Int.toNat_natCast]
 split
 ·exact hw j hj
 ·next h0 =>
  have := (fit_bd hw (hT c) hj hcj h0).1
  rw [Rat.div_def, Rat.mul_assoc, ← Rat.div_def]
  exact rndQ_nn this
theorem rat_leB {neg : Bool} {n d B : Nat} (hd : d ≠ 0) (h : n ≤ B) : rat neg n d ≤ ((B : Int) : Rat) := by
 rw [Rat.le_iff]
 have e1 : ((B : Int) : Rat).num = (B : Int) := rfl
 have e2 : ((B : Int) : Rat).den = 1 := rfl
 rw [e1, e2, rat_num hd, rat_den hd]
 have hg : 0 < n.gcd d := Nat.gcd_pos_of_pos_right n (by omega)
 have h1 : 1 ≤ d / n.gcd d := Nat.div_pos (Nat.le_of_dvd (by omega) (Nat.gcd_dvd_right n d)) hg
 have h2 : n / n.gcd d ≤ B := Nat.le_trans (Nat.div_le_self _ _) h
 have h3 : B * 1 ≤ B * (d / n.gcd d) := Nat.mul_le_mul_left B h1
 have h4 : ((B * (d / n.gcd d) : Nat) : Int) = (B : Int) * ((d / n.gcd d : Nat) : Int) := Int.natCast_mul ..
 generalize n / n.gcd d = u at *
 generalize d / n.gcd d = v at *
 have h5 : sgn neg u ≤ (u : Int) := by cases neg <;> simp [sgn] <;> omega
 rw [← h4]
 omega
theorem ttQ_bd (h : ∀ r ∈ T, shoF r.1 r.2 = 0 ∧ 0 ≤ ratX r.1 r.2) (c : Nat) : 0 ≤ ttQ T c ∧ ttQ T c ≤ (((1000000000000 : Nat) : Int) : Rat) := by
 unfold ttQ
 by_cases hc : c < T.length
 ·obtain ⟨h1, h2⟩ := h (T.getD c rti0) (by rw [getD_elem0 _ _ _ hc]; exact List.getElem_mem _)
  refine ⟨h2, ?_⟩
  have h3 := sho_lt h1
  have h4 := (ratF_ok (shoF_ok h1).1).den
  exact rat_leB (by omega) h3.1
 ·have e : T.getD c rti0 = rti0 := by simp [List.getD_eq_getElem?_getD, Nat.not_lt.1 hc]
  rw [e]
  have e2 : ratX rti0.1 rti0.2 = 0 := by
   unfold ratX
   have : dV (bodyB rti0.1).data.toList = 0 := by decide
   rw [this, rat_zero_n]
  rw [e2]
  exact ⟨Rat.le_refl, by
   rw [show (0 : Rat) = rat false 0 1 from (rat_zero_n false 1).symm]
   exact rat_leB (by decide) (Nat.zero_le _)⟩
theorem rk_nn {m : List Mgn} (hT : ∀ i, i < m.length → ∀ r ∈ (m.getD i mgn0).2, shoF r.1 r.2 = 0 ∧ 0 ≤ ratX r.1 r.2) (hc : ∀ i, i < m.length → ∀ j, j < n → ∃ c : Nat, celI l i j = (c : Int)) (hw : ∀ j, j < n → 0 ≤ ws.getD j 0) : ∀ k, k ≤ m.length → ∀ j, j < n → 0 ≤ (rkP P m l n ws k).getD j 0 := by
 intro k
 induction k with
 | zero => exact fun _ => hw
 | succ k ih => exact fun hk => fit_nn (ih (by omega)) (ttQ_bd (hT k hk)) (hc k hk)
theorem rkW_nn {m : List Mgn} (hT : ∀ i, i < m.length → ∀ r ∈ (m.getD i mgn0).2, shoF r.1 r.2 = 0 ∧ 0 ≤ ratX r.1 r.2) (hc : ∀ i, i < m.length → ∀ j, j < n → ∃ c : Nat, celI l i j = (c : Int)) (hw : ∀ j, j < n → 0 < wgtQ l j) : ∀ t j, j < n → 0 ≤ (rkW P m l n t).getD j 0 := by
 intro t
 induction t with
 | zero => exact fun j hj => by show 0 ≤ (wsL l n).getD j 0; rw [wsL_get hj]; exact Rat.le_of_lt (hw j hj)
 | succ t ih => exact rk_nn hT hc ih _ (Nat.le_refl _)
theorem rkP_len {m : List Mgn} (h : ws.length = n) : ∀ k, (rkP P m l n ws k).length = n
 | 0 => h
 | k + 1 => fitL_len
theorem rkW_len {m : List Mgn} : ∀ t, (rkW P m l n t).length = n
 | 0 => wsL_len
 | t + 1 => rkP_len (rkW_len t) _
end
/-- Rake: weights, rounds, distance, whether it is done; the error. -/
abbrev Rkd := List Rti × Int × Rti × Bool
def rkd0 : Rkd := ([], 0, (⟨#[]⟩, ⟨#[]⟩), false)
noncomputable def rkG (P : Nat) (m : List Mgn) (l : List Psn) (e : Rat) (t : Nat) : Bool := decide (e < dsQ m l (rkW P m l l.length t))
noncomputable def rkT (P : Nat) (m : List Mgn) (l : List Psn) (rd : Nat) (e : Rat) : Nat := rkS (rkG P m l e) rd 0
noncomputable def emF (m : List Mgn) (l : List Psn) (i : Nat) : Int := if nobB (fun c => celQ (wgtQ l) l i (c : Int) l.length = 0) (m.getD i mgn0).2 (m.getD i mgn0).2.length then 19 else 0
noncomputable def rakE (m : List Mgn) (l : List Psn) (W : List Rat) (t : Nat) (e : Rat) : Rkd × Int :=
 if (shtR W).2 ≠ 0 then (rkd0, (shtR W).2) else if (ratR (dsQ m l W)).2.2 ≠ 0 then (rkd0, (ratR (dsQ m l W)).2.2)
 else (((shtR W).1, (t : Int), ((ratR (dsQ m l W)).1, (ratR (dsQ m l W)).2.1), decide (dsQ m l W ≤ e)), 0)
noncomputable def rakR (m : List Mgn) (l : List Psn) (pl rd : Int) (d : Rti) : Rkd × Int :=
 if ppmF m l ≠ 0 then (rkd0, ppmF m l) else if outB pl 0 12 = true ∨ outB rd 0 200 = true then (rkd0, 1)
 else if shoF d.1 d.2 ≠ 0 then (rkd0, shoF d.1 d.2) else if ratX d.1 d.2 < 0 then (rkd0, 1)
 else if scan (emF m l) m.length ≠ 0 then (rkd0, 19)
 else rakE m l (rkW (10 ^ pl.toNat) m l l.length (rkT (10 ^ pl.toNat) m l rd.toNat (ratX d.1 d.2))) (rkT (10 ^ pl.toNat) m l rd.toNat (ratX d.1 d.2)) (ratX d.1 d.2)
end Go.Proofs.YtmlpjffnmkndoaaGreatDoor

namespace Go.Proofs.YtmlpjffnmkndoaaGreatDoor
open Go.RowKit
set_option linter.unusedVariables false
set_option linter.unusedSimpArgs false
set_option maxHeartbeats 1000000 in
theorem rakecl_any {M : Nat} (hD : Hid (DivOk M)) (hM : LenB M) {v : Value} {x : Rat} {N D p P N2 br : Nat} {rd : Int} {s t : ByteArray} (hp : p ≤ 1000) (hP : Hid (10 ^ p = P)) (hP0 : 0 < P) (hM1 : N * P * 2 + D ≤ M) (hM2 : D * 2 ≤ M) (hM3 : N ≤ M) (hM4 : P ≤ M) (hq : rnN x.num.natAbs x.den P ≤ N2) {w : World} {φ : Phi} (hφ : Fz φ w) (hv : FfX φ v x N D) (hbr : φ br = some (.cells #[.int .i64 (p : Int), .int .i64 rd, .string s, .string t] 42)) :
  Calls Tryz.prog 45 #[v, .pointer (some ⟨br, 0, none⟩)] w (FfXP (rndQ P x) N2 P φ w) := by
 obtain ⟨g1, n1, d1, p1, p2, a1, c1, a2, c2, rfl, _⟩ := hv.open
 obtain ⟨φ1, hle1, hi1, hb1⟩ := (Inv.start hφ).frz (.cells #[.bool g1, .slice a1 p1 c1, .slice a2 p2 c2] 70)
 have hR := RsSt.start hi1 #[.bool false, .slice none 0 0, .slice none 0 0] 70
 rw [alloc_sz] at hR
 have HR := Lib.hid hR
 have HV := Lib.hid (hv.mono hle1)
 have HBR := Lib.hid (hle1 _ _ hbr)
 have HB1 := Lib.hid hb1
 clear hφ hv hle1 hi1 hb1 hR hbr
 go_enter Tryz.func45, Tryz.ntmps45
 go_upto_region 1 with fail
 obtain ⟨bb, hbb⟩ : ∃ b, w.heap.size = b := ⟨_, rfl⟩
 have HBB := Lib.hid hbb
 generalize (w.alloc (.cells #[.bool g1, .slice a1 p1 c1, .slice a2 p2 c2] 70)).alloc (.cells #[.bool false, .slice none 0 0, .slice none 0 0] 70) = wx at *
 rw [hbb] at HR HB1 ⊢
 clear hbb
 have x0 : wx.cell? ⟨bb, 0, none⟩ = some (.bool g1) := box_cell HB1.out φ1.le_refl HR.out.inv.fz 0
 have x1 : wx.cell? ⟨bb, 1, none⟩ = some (.slice a1 p1 c1) := box_cell HB1.out φ1.le_refl HR.out.inv.fz 1
 have x2 : wx.cell? ⟨bb, 2, none⟩ = some (.slice a2 p2 c2) := box_cell HB1.out φ1.le_refl HR.out.inv.fz 2
 have x3 : wx.cell? ⟨br, 0, none⟩ = some (.int .i64 (p : Int)) := box_cell HBR.out φ1.le_refl HR.out.inv.fz 0
 go_wp2_with (go_at_call 46; (with_reducible refine (Round_any hD hM hp hP hP0 hM1 hM2 hM3 hM4 hq HR.out.inv.fz HV.out).mono ?_); rintro e w2 ⟨v2, φ2, rfl, hi2, hv2⟩; obtain ⟨g5, n5, d5, k5, k6, a7, c7, a8, c8, rfl, _⟩ := hv2.open; have H2 := Lib.hid (HR.out.call hi2); have V2 := Lib.hid hv2; obtain ⟨y0, y1, y2, y3, y4, y5⟩ := H2.out.facts)
 have hIZ := Lib.hid (((H2.out.inv.setCell H2.out.l H2.out.f (off := 0) (Value.bool g5)).setCell H2.out.l H2.out.f (off := 1) (Value.slice a7 k5 c7)).setCell H2.out.l H2.out.f (off := 2) (Value.slice a8 k6 c8))
 have hBZ := Lib.hid (((H2.out.k.set 0 (Value.bool g5)).set 1 (Value.slice a7 k5 c7)).set 2 (Value.slice a8 k6 c8))
 have e0 : _ = some (Value.bool g5) := hBZ.out.cell 0
 have e1 : _ = some (Value.slice a7 k5 c7) := hBZ.out.cell 1
 have e2 : _ = some (Value.slice a8 k6 c8) := hBZ.out.cell 2
 (try simp only [Exit.inBlock, Exit.then])
 refine bodyPost_ret (v := .agg #[(Value.bool g5), (Value.slice a7 k5 c7), (Value.slice a8 k6 c8)]) (by simp [results, Tryz.results45, go_sem, e0, e1, e2]) rfl ?_
 exact ⟨_, φ2, rfl, hIZ.out, V2.out⟩
/-- The bounds that raking wants. -/
structure RkB (M N n : Nat) : Prop where
 f : FtB M (N * N) N n N
 r1 : N * N * (N * N ^ n) * N * 2 + N * (N * (n * (N * N) * N ^ n)) ≤ M
 r2 : N * (N * (n * (N * N) * N ^ n)) * 2 ≤ M
 d1 : n * (N * N) * N ^ n * N + N * N ^ n ≤ M
 d2 : N ^ n * N ≤ M
 e1 : (n * (N * N) * N ^ n * N + N * N ^ n) * (N ^ n * N) + (n * (N * N) * N ^ n * N + N * N ^ n) * (N ^ n * N) ≤ M
 e2 : N ^ n * N * (N ^ n * N) ≤ M
 g1 : (n * (N * N) * N ^ n * N + N * N ^ n) * N + N * (N ^ n * N) ≤ M
 g2 : N ^ n * N * N ≤ M
 h1 : N * N ≤ M
 h2 : N ≤ M
theorem rakecl_P {P0 : Phi → World → Prop} (hP0 : Sta P0) {M : Nat} (hD : Hid (DivOk M)) (hM : LenB M) {N n : Nat} (hB : Hid (RkB M N n)) (hN1 : 1 ≤ N) {p P br : Nat} {rd : Int} {s t : ByteArray} (hp : p ≤ 1000) (hP : Hid (10 ^ p = P)) (hPN : P ≤ N) {v : Value} {x : Rat} (hx : Hid (0 ≤ x ∧ x ≤ ((N : Int) : Rat))) {φ ψ : Phi} {W : World} (hbr : Hid (φ br = some (.cells #[.int .i64 (p : Int), .int .i64 rd, .string s, .string t] 42))) (hS : Hid (P0 φ W)) (h1 : Hid (FfX ψ v x (N * N * (N * N ^ n)) (N * (N * (n * (N * N) * N ^ n))))) (hl : Hid (ψ.le φ)) :
  Calls Tryz.prog 45 #[v, .pointer (some ⟨br, 0, none⟩)] W (FfS P0 φ (rndQ P x) (N * N) N) := by
 have hP1 : 0 < P := by rw [← hP.out]; exact Nat.pow_pos (by decide)
 have hm1 : N * N * (N * N ^ n) * P * 2 + N * (N * (n * (N * N) * N ^ n)) ≤ M := Nat.le_trans (Nat.add_le_add_right (Nat.mul_le_mul_right 2 (Nat.mul_le_mul_left _ hPN)) _) hB.out.r1
 have hm3 : N * N * (N * N ^ n) ≤ M := hB.out.f.c5
 exact (rakecl_any hD hM hp hP hP1 hm1 hB.out.r2 hm3 (Nat.le_trans hPN hB.out.h2) (Nat.le_trans (rnN_le x.den_pos (num_le hx.out.1 hx.out.2)) (Nat.mul_le_mul_left N hPN)) (hP0.fz hS.out) (h1.out.mono hl.out) hbr.out).mono (fun en w' hp => FfS.of hP0 (Nat.le_refl _) hPN hS hp)
set_option maxRecDepth 100000 in
set_option maxHeartbeats 4000000 in
theorem fitted_rake {M : Nat} (hD : Hid (DivOk M)) (hM : LenB M) (hM2 : p10 2000 ≤ M) {N D N2 D2 N0 : Nat} (hN0 : Hid (N0 = 1000000000000)) (hD1 : 1 ≤ D) {n : Nat} (hB : Hid (FtB M N D n N0)) (hB2 : Hid (0 < n → N ≤ N2 ∧ D ≤ D2)) {ch : Rat → Rat} {m : List Mgn} {nm cm mi nt : Nat} {a0 : Option Addr} {al : Option Addr} {cl : Nat} {l : List Psn} {aw : Option Addr} {cw : Nat} {ws : List Rat} {w : World} {φ : Phi} {br : Nat} (hφ : Fz φ w) (sm : SlV φ a0 cm m) (hnm : Hid (m.length = nm)) (hmn : mi < nm) (hnt9 : Hid ((m.getD mi mgn0).2.length = nt)) (hT : Hid (∀ r ∈ (m.getD mi mgn0).2, RtiG r ∧ shoF r.1 r.2 = 0)) (sl : SlV φ al cl l) (hn : Hid (l.length = n)) (sw : SlV φ aw cw (ws.map (Fx.mk (N := N) (D := D)))) (hw : Hid (ws.length = n)) (hn3 : n ≤ 3000) (hnt : nt ≤ 40) (hmi : mi ≤ 8) (hc : Hid (∀ j, j < n → mi < (l.getD j psn0).2.1.length ∧ ∃ c : Nat, c < nt ∧ celI l mi j = (c : Int)))
  {CH : Rat → Prop} (hCH : Hid (∀ j, j < n → ∀ c : Nat, celI l mi j = (c : Int) → celQ (fun j => ws.getD j 0) l mi (c : Int) n ≠ 0 → CH (ws.getD j 0 * (ttQ (m.getD mi mgn0).2 c / celQ (fun j => ws.getD j 0) l mi (c : Int) n)))) (hch : Hid (∀ (P : Phi → World → Prop) (ψ1 ψ : Phi) (W : World) (v : Value) (x : Rat), Sta P → Hid (CH x) → Hid (φ.le ψ) → Hid (P ψ W) → Hid (FfX ψ1 v x (N * (N0 * D ^ n)) (D * (N0 * (n * N * D ^ n)))) → Hid (ψ1.le ψ) → Calls Tryz.prog 45 #[v, .pointer (some ⟨br, 0, none⟩)] W (FfS P ψ (ch x) N2 D2))) :
  Calls Tryz.prog 32 #[.slice a0 nm cm, .slice al n cl, .slice aw n cw, .int .i64 (mi : Int), .func (.func 45) #[] #[.pointer (some ⟨br, 0, none⟩)]] w (SlPost1 ((fitL ch ws l mi (m.getD mi mgn0).2 n n).map (Fx.mk (N := N2) (D := D2))) φ w) := by
 have HM2 := Lib.hid hM2
 have HSL := Lib.hid sl
 have HSW := Lib.hid sw
 have HCS := Lib.hid (cellSums_any hD hM hD1 hB.out.c1 hB.out.c2 hφ sm hnm hmn hnt9 sl hn sw hw hn3 hnt hmi hc)
 obtain ⟨bm, om, rfl, fm⟩ := sm.mgnsD hnm hmn
 obtain ⟨ar, cr, sr, f1⟩ := fm mi hmn
 have F1 := Lib.hid (fun W (hf : Fz φ W) => (f1 W hf).2)
 rw [hnt9.out] at F1
 obtain ⟨T, hTT⟩ : ∃ T, (m.getD mi mgn0).2 = T := ⟨_, rfl⟩
 rw [hTT] at hnt9 hT sr hCH ⊢
 have SR := Lib.hid sr
 have hwm : Hid ((ws.map (Fx.mk (N := N) (D := D))).length = n) := Lib.hid (by rw [List.length_map, hw.out])
 have hmni : (mi : Int) < (nm : Int) := by omega
 have hnml : nm ≤ 9223372036854775807 := by have := sm.capn; have := sm.capm; rw [hnm.out] at *; unfold maxLen at *; omega
 have HI0 := Lib.hid (Inv.start hφ)
 have hcrl : nt ≤ 9223372036854775807 := by omega
 obtain ⟨h1, h2, h3, h4, h5, h6, h7, h8, h9, h10⟩ := hB.out
 obtain ⟨NB, hNB⟩ : ∃ x, n * N * D ^ n = x := ⟨_, rfl⟩
 obtain ⟨DB, hDB⟩ : ∃ x, D ^ n = x := ⟨_, rfl⟩
 rw [hNB] at HCS hch h1 h4 h6
 rw [hDB] at HCS hch h2 h3 h5
 have HBO := Lib.hid (And.intro h3 (And.intro h4 h2))
 have HBT := Lib.hid (And.intro h5 (And.intro h6 (And.intro h7 h3)))
 have hle0 := Lib.hid φ.le_refl
 have hsl : Hid (((celR ws l mi nt n).map (Fx.mk (N := NB) (D := DB))).length = nt) := Lib.hid (by simp [celR])
 have hrefl : Hid (N * (N0 * DB) ≤ N * (N0 * DB) ∧ D * (N0 * NB) ≤ D * (N0 * NB)) := Lib.hid ⟨Nat.le_refl _, Nat.le_refl _⟩
 have hrefo : Hid (N0 * DB ≤ N0 * DB ∧ N0 * NB ≤ N0 * NB) := Lib.hid ⟨Nat.le_refl _, Nat.le_refl _⟩
 have hS_ := Lib.hid (fun c (h : c < nt) => (celR_get (ws := ws) (l := l) (mi := mi) (k := n) h))
 clear hφ sl sm sw hM2 fm f1 hTT sr h1 h2 h3 h4 h5 h6 h7 h8 h9 h10 hB hNB hDB
 go_enter Tryz.func32, Tryz.ntmps32
 go_upto_region 2 with (go_at_call 53; (with_reducible refine HCS.out.mono ?_); rintro e w1 ⟨a1, c1, φ1, rfl, hi1, s1⟩; rw [hsl.out]; have I1 := Lib.hid (HI0.out.call hi1); have S1 := Lib.hid s1; have L1 := Lib.hid hi1.le; clear hi1 s1)
 go_upto_region 3 with (at_make; (refine wpList_mkS (α := Raw3) rfl _ _ 62 rfl slRaw I1.out _ _ nt raw0 (fun _ => rfl) rfl rfl (by omega) ?_; intro w2 hi2 ho2 hg2))
 have hS0 : Hid (OwG w φ φ1 70 (some ⟨w1.heap.size, 0, none⟩) nt (List.replicate nt raw0) w2) := Lib.hid ⟨hi2, ho2⟩
 generalize w1.heap.size = gf at *
 clear hi2 ho2 hg2 I1
 go_wp2
 go_loopw [29] (fun iv wr => ∃ (k : Nat) (rs : List Raw3) (φ' : Phi), k ≤ nt ∧ iv = .int .i64 (k : Int) ∧ Hid (φ1.le φ') ∧ Hid (rs.length = nt) ∧ Hid (∀ c, c < k → celQ (fun j => ws.getD j 0) l mi (c : Int) n ≠ 0 → FfX φ' (rs.getD c raw0).v (ttQ T c / celQ (fun j => ws.getD j 0) l mi (c : Int) n) (N0 * DB) (N0 * NB)) ∧ Hid (OwG w φ φ' 70 (some ⟨gf, 0, none⟩) nt rs wr)) (fun iv _ => nt - (intOf iv).toNat)
 case atStart => exact ⟨0, List.replicate nt raw0, φ1, Nat.zero_le _, rfl, Lib.hid φ1.le_refl, Lib.hid (by simp), Lib.hid (fun c hc => absurd hc (Nat.not_lt_zero c)), hS0⟩
 case round =>
  clear hS0
  obtain ⟨k, rs, φ', hk, rfl, hle, hrl, hR, hS⟩ := hrel
  by_cases hlt : k < nt
  ·have hlti : (k : Int) < (nt : Int) := by omega
   obtain ⟨bs, os_, rfl, fs⟩ := S1.out.fxD hsl hlt
   obtain ⟨g6, a6, k6, c6, a7, k7, c7, hx, f6⟩ := fs k hlt
   rw [fx_getD, hS_.out k hlt] at hx
   obtain ⟨e0, e1, e2⟩ := f6 wr (hS.out.inv.fz.sub hle.out)
   obtain ⟨sk, hsk⟩ : ∃ s, Hid (celQ (fun j => ws.getD j 0) l mi (k : Int) n = s) := ⟨_, Lib.hid rfl⟩
   rw [hsk.out] at hx
   obtain ⟨φp, lp, ip, ep⟩ := (Inv.start hS.out.inv.fz).frz (.cells #[.bool g6, .slice a6 k6 c6, .slice a7 k7 c7] 70)
   have hS1 := Lib.hid (hS.out.call ip)
   have LP := Lib.hid (hle.out.trans lp)
   have LQ := Lib.hid lp
   have EP := Lib.hid ep
   have HX := Lib.hid ((hx.mono hle.out).mono lp)
   obtain ⟨bt, ot, rfl, ft⟩ := SR.out.rtisD hnt9 hlt
   have FT := Lib.hid (ft k hlt)
   have hm : T.getD k rti0 ∈ T := by rw [getD_elem0 _ _ _ (by rw [hnt9.out]; exact hlt)]; exact List.getElem_mem _
   obtain ⟨hg1, hg2⟩ := hT.out _ hm
   have htq : ttQ T k = ratX (T.getD k rti0).1 (T.getD k rti0).2 := rfl
   generalize T.getD k rti0 = p at *
   obtain ⟨s, t⟩ := p
   dsimp only at hg2 htq FT
   have hsz : Hid (s.size ≤ 9223372036854775807 ∧ t.size ≤ 9223372036854775807) := Lib.hid hg1
   have hrf := Lib.hid (shoF_ok hg2).1
   have hbd : Hid (dV (bodyB s).data.toList ≤ N0 ∧ dV t.data.toList ≤ N0) := Lib.hid (by rw [hN0.out]; exact sho_lt hg2)
   have hxt : Hid (ratX s t = ttQ T k) := Lib.hid htq.symm
   have hRm : Hid (∀ ψ : Phi, φp.le ψ → ∀ y : Raw3, (sk ≠ 0 → FfX ψ y.v (ttQ T k / sk) (N0 * DB) (N0 * NB)) → ∀ c, c < k + 1 → celQ (fun j => ws.getD j 0) l mi (c : Int) n ≠ 0 → FfX ψ ((rs.set k y).getD c raw0).v (ttQ T c / celQ (fun j => ws.getD j 0) l mi (c : Int) n) (N0 * DB) (N0 * NB)) := Lib.hid (fun ψ hl y hy c hc hne => by
    by_cases e : c = k
    ·subst e
     rw [raw_setS (by rw [hrl.out]; exact hlt), hsk.out]
     exact hy (by rw [← hsk.out]; exact hne)
    ·rw [raw_setN e]
     exact ((hR.out c (by omega) hne).mono LQ.out).mono hl)
   have hRz : Hid (sk = 0 → ∀ c, c < k + 1 → celQ (fun j => ws.getD j 0) l mi (c : Int) n ≠ 0 → FfX φp (rs.getD c raw0).v (ttQ T c / celQ (fun j => ws.getD j 0) l mi (c : Int) n) (N0 * DB) (N0 * NB)) := Lib.hid (fun hz c hc hne => by
    by_cases e : c = k
    ·subst e; exact absurd (hsk.out.trans hz) hne
    ·exact (hR.out c (by omega) hne).mono LQ.out)
   clear fs f6 hx ip ep lp hS hle ft hm hg1 hg2 htq hR
   go_upto_region 6 with fail
   generalize wr.alloc (.cells #[.bool g6, .slice a6 k6 c6, .slice a7 k7 c7] 70) = wz at *
   generalize wr.heap.size = b5 at *
   clear e0 e1 e2
   have x0 : wz.cell? ⟨b5, 0, none⟩ = some (.bool g6) := box_cell EP.out φp.le_refl hS1.out.inv.fz 0
   have x1 : wz.cell? ⟨b5, 1, none⟩ = some (.slice a6 k6 c6) := box_cell EP.out φp.le_refl hS1.out.inv.fz 1
   have x2 : wz.cell? ⟨b5, 2, none⟩ = some (.slice a7 k7 c7) := box_cell EP.out φp.le_refl hS1.out.inv.fz 2
   obtain ⟨q, hq⟩ : ∃ q, Hid (sgI sk = q) := ⟨_, Lib.hid rfl⟩
   have hqz : q = 0 ↔ sk = 0 := by rw [← hq.out]; exact sgI_z
   have LR := Lib.hid φp.le_refl
   by_cases hq0 : q = 0
   ·have hqi : ((q : Int) == 0) = true := by simp [hq0]
    have hqj : ((q : Int) != 0) = false := by simp [hq0]
    have hR2 := Lib.hid (hRz.out (hqz.1 hq0))
    clear hqz hq0 hRz hRm
    go_wp2_with (go_at_call 76; (with_reducible refine (Sign_P (OwG.sta _ _ _ _ _ _) HX LR hq hS1).mono ?_); rintro e w4 ⟨rfl, S4⟩)
    go_roundw
    case rel => exact ⟨k + 1, rs, φp, by omega, by go_num, LP, hrl, hR2, S4⟩
    case measure => (simp [intOf] <;> omega)
   ·have hqi : ((q : Int) == 0) = false := by simp [hq0]
    have hqj : ((q : Int) != 0) = true := by simp [hq0]
    have hsk0 : Hid (sk ≠ 0) := Lib.hid (fun h => hq0 (hqz.2 h))
    clear hqz hq0 hRz
    go_upto_region 7 with (go_at_call 76; (with_reducible refine (Sign_P (OwG.sta _ _ _ _ _ _) HX LR hq hS1).mono ?_); rintro e w4 ⟨rfl, S4⟩)
    clear x0 x1 x2
    have HLP0 := Lib.hid hS1.out.inv.le
    have HSd : Hid (OwG w φ φp 70 (some ⟨gf, 0, none⟩) nt rs w4.drew) := Lib.hid (S4.out.callB (bdrewN (Below.refl _ w4) 1))
    have hcf := Lib.hid (fun (ψ : Phi) (W : World) (hl : Hid (φp.le ψ)) (hf : Fz ψ W) => (⟨F1.out W (hf.sub (HLP0.out.trans hl.out)), (FT.out W (hf.sub (HLP0.out.trans hl.out))).1, (FT.out W (hf.sub (HLP0.out.trans hl.out))).2, box_cell EP.out hl.out hf 0, box_cell EP.out hl.out hf 1, box_cell EP.out hl.out hf 2⟩ : W.cell? ⟨bm, om + mi * 2 + 1, none⟩ = some (.slice (some ⟨bt, ot, none⟩) nt cr) ∧ W.cell? ⟨bt, ot + k * 2, none⟩ = some (.string s) ∧ W.cell? ⟨bt, ot + k * 2 + 1, none⟩ = some (.string t) ∧ W.cell? ⟨b5, 0, none⟩ = some (.bool g6) ∧ W.cell? ⟨b5, 1, none⟩ = some (.slice a6 k6 c6) ∧ W.cell? ⟨b5, 2, none⟩ = some (.slice a7 k7 c7)))
    obtain ⟨y0, y1, y2, y3, y4, y5⟩ := hcf.out φp w4.drew LR HSd.out.inv.fz
    obtain ⟨z0, z1, z2, z3, z4, z5⟩ := hcf.out φp w4 LR S4.out.inv.fz
    go_region_held3 (fun w' => w'.cell? ⟨bm, om + mi * 2 + 1, none⟩ = some (.slice (some ⟨bt, ot, none⟩) nt cr) ∧ w'.cell? ⟨bt, ot + k * 2, none⟩ = some (.string s) ∧ w'.cell? ⟨bt, ot + k * 2 + 1, none⟩ = some (.string t) ∧ w'.cell? ⟨b5, 0, none⟩ = some (.bool g6) ∧ w'.cell? ⟨b5, 1, none⟩ = some (.slice a6 k6 c6) ∧ w'.cell? ⟨b5, 2, none⟩ = some (.slice a7 k7 c7)) (first | done | with_reducible exact ⟨y0, y1, y2, y3, y4, y5⟩ | with_reducible exact ⟨z0, z1, z2, z3, z4, z5⟩ | with_reducible exact ⟨by assumption, by assumption, by assumption, by assumption, by assumption, by assumption⟩ | fail) (first
     | ((with_reducible refine (Over_P (OwG.sta _ _ _ _ _ _) hD hM V2 (Lib.hid φ2.le_refl) HX L2 hsk0 HBO hrefo S2).mono ?_); rintro e w3 ⟨g3, a8, k8, c8, a9, k9, c9, φ3, rfl, S3, L3, V3⟩; have L23 := Lib.hid (L2.out.trans L3.out); obtain ⟨gf', hgf', -, -, -, o0, o1, o2, ofr, hset⟩ := S3.out.own.rawD hrl hlt; cases hgf'; have o3 := ofr (k * 3); have o4 := ofr (k * 3 + 1); have o5 := ofr (k * 3 + 2); have hst := Lib.hid (hset ⟨g3, a8, k8, c8, a9, k9, c9⟩ w φ S3.out.inv); obtain ⟨v0, v1, v2, v3, v4, v5⟩ := hcf.out φ3 w3 L23 S3.out.inv.fz; obtain ⟨n0, n1, n2, n3, n4, n5⟩ := hcf.out φ3 _ L23 hst.out.2.fz; clear hset ofr)
     | ((with_reducible refine (FracOf_P (OwG.sta _ _ _ _ _ _) hD HM2.out hsz hrf hxt hbd HSd).mono ?_); rintro e w2' ⟨g2, a2, k2, c2, a3, k3, c3, φ2, rfl, S2, L2, V2⟩; obtain ⟨u0, u1, u2, u3, u4, u5⟩ := hcf.out φ2 w2' L2 S2.out.inv.fz)
     | fail)
    all_goals
     have HN : Hid (OwG w φ φ3 70 (some ⟨gf, 0, none⟩) nt (rs.set k ⟨g3, a8, k8, c8, a9, k9, c9⟩) (((w3.setCell ⟨gf, k * 3, none⟩ (.bool g3)).setCell ⟨gf, k * 3 + 1, none⟩ (.slice a8 k8 c8)).setCell ⟨gf, k * 3 + 2, none⟩ (.slice a9 k9 c9))) := Lib.hid ⟨hst.out.2, hst.out.1⟩
     have hR2 := Lib.hid (hRm.out φ3 L23.out ⟨g3, a8, k8, c8, a9, k9, c9⟩ (fun _ => V3.out))
     have L9 := Lib.hid (LP.out.trans L23.out)
     clear hst hcf hRm o0 o1 o2 o3 o4 o5
     go_wp2
     go_roundw
     case rel => exact ⟨k + 1, rs.set k ⟨g3, a8, k8, c8, a9, k9, c9⟩, φ3, by omega, by go_num, L9, Lib.hid (by rw [List.length_set, hrl.out]), hR2, HN⟩
     case measure => (simp [intOf] <;> omega)
  ·obtain rfl : k = nt := by omega
   obtain ⟨φ2, l2, i2, s2, _⟩ := hS.out.own.release hS.out.inv
   have SF := Lib.hid s2
   have LF := Lib.hid (hle.out.trans l2)
   have hRF : Hid (∀ c, c < k → celQ (fun j => ws.getD j 0) l mi (c : Int) n ≠ 0 → FfX φ2 (rs.getD c raw0).v (ttQ T c / celQ (fun j => ws.getD j 0) l mi (c : Int) n) (N0 * DB) (N0 * NB)) := Lib.hid (fun c hc hne => (hR.out c hc hne).mono l2)
   have hS3 : Hid (OwG w φ φ2 70 none 0 ([] : List (Fx N2 D2)) wr) := Lib.hid ⟨i2, Own.nil _ _ _ _⟩
   clear hS hR hle i2 s2 l2
   go_wp2
   go_loopw [15, 54] (fun ov iv wr => ∃ (j : Nat) (ao : Option Addr) (co : Nat) (os : List (Fx N2 D2)) (φ' : Phi), j ≤ n ∧ iv = .int .i64 (j : Int) ∧ ov = .slice ao os.length co ∧ Hid (os.length = j) ∧ Hid (os = (fitL ch ws l mi T n j).map Fx.mk) ∧ Hid (φ2.le φ') ∧ Hid (OwG w φ φ' 70 ao co os wr)) (fun _ iv _ => n - (intOf iv).toNat)
   case atStart => exact ⟨0, none, 0, [], φ2, Nat.zero_le _, rfl, rfl, Lib.hid rfl, Lib.hid rfl, Lib.hid φ2.le_refl, hS3⟩
   case round =>
    clear hS3
    obtain ⟨j, ao, co, os, φ', hj, rfl, rfl, hol, hL, hle, hS⟩ := hrel
    by_cases hjl : j < n
    ·have hjli : (j : Int) < (n : Int) := by omega
     obtain ⟨b, off, rfl, fp⟩ := HSL.out.psnsD hn hjl
     obtain ⟨ac, cc, sc, f2⟩ := fp j hjl
     obtain ⟨d0, d1, d2, d3, d4, d5⟩ := f2 wr (hS.out.inv.fz.sub hS.out.inv.le)
     obtain ⟨hml', ct, hct, hce⟩ := hc.out j hjl
     have hce2 : Hid (celI l mi j = (ct : Int)) := Lib.hid hce
     unfold celI at hce
     generalize l.getD j psn0 = p at *
     obtain ⟨⟨s, t⟩, cs, x, y, z⟩ := p
     dsimp only at d0 d1 d2 d3 d4 d5 sc hce hml'
     obtain ⟨mc, hmc⟩ : ∃ m, cs.length = m := ⟨_, rfl⟩
     rw [hmc] at d2 hml'
     have hcn := Lib.hid hmc
     have hmcc : mc ≤ 9223372036854775807 := by have h1 := sc.capn; have h2 := sc.capm; rw [hmc] at h1; unfold maxLen at h2; omega
     obtain ⟨bc, oc, rfl, fc⟩ := sc.intsD hcn hml'
     have FC := Lib.hid (fc mi hml')
     rw [hce] at FC
     obtain ⟨bw, ow, rfl, fw⟩ := HSW.out.fxD hwm hjl
     obtain ⟨g6, a6, k6, c6, a7, k7, c7, hx, f6⟩ := fw j hjl
     have F6 := Lib.hid f6
     rw [fx_getD] at hx
     obtain ⟨bs, os_, rfl, fs⟩ := S1.out.fxD hsl hct
     obtain ⟨g4, a4, k4, c4, a5, k5, c5, hx4, f4⟩ := fs ct hct
     rw [fx_getD, hS_.out ct hct] at hx4
     have F4 := Lib.hid f4
     obtain ⟨bf, of_, hbf, ff⟩ := SF.out.rawD hrl hct
     cases hbf
     have FF := Lib.hid (ff ct hct)
     rw [Nat.zero_add] at FF
     obtain ⟨φp, lp, ip, ep⟩ := (Inv.start hS.out.inv.fz).frz (.cells #[.string s, .string t, .slice (some ⟨bc, oc, none⟩) mc cc, .int .i64 x, .int .i64 y, .int .i64 z] 76)
     have hS1 := Lib.hid (hS.out.call ip)
     have LP := Lib.hid (hle.out.trans lp)
     have L1P := Lib.hid (LF.out.trans LP.out)
     have EP := Lib.hid ep
     have hmii : (mi : Int) < (mc : Int) := by omega
     have hcti : (ct : Int) < (k : Int) := by omega
     have d9 : (wr.alloc (.cells #[.string s, .string t, .slice (some ⟨bc, oc, none⟩) mc cc, .int .i64 x, .int .i64 y, .int .i64 z] 76)).cell? ⟨bc, oc + mi, none⟩ = some (.int .i64 (ct : Int)) := (FC.out _ (hS1.out.inv.fz.sub hS1.out.inv.le)).2
     have HX := Lib.hid (hx.mono hS1.out.inv.le)
     obtain ⟨sk, hsk⟩ : ∃ s, Hid (celQ (fun j => ws.getD j 0) l mi (ct : Int) n = s) := ⟨_, Lib.hid rfl⟩
     rw [hsk.out] at hx4
     have HX4 := Lib.hid (hx4.mono L1P.out)
     have hRc := Lib.hid (hRF.out ct hct)
     have hCHj := Lib.hid (hCH.out j hjl ct hce2.out)
     rw [hsk.out] at hCHj
     rw [hsk.out] at hRc
     have hfx : Hid (fitX ch ws l mi T n j = if sk = 0 then ws.getD j 0 else ch (ws.getD j 0 * ttQ T ct / sk)) := Lib.hid (by unfold fitX; rw [hce2.out, hsk.out, Int.toNat_natCast])
     have HB2 := Lib.hid (hB2.out (by omega))
     have hos3 : os.length ≤ 3000 := by rw [hol.out]; omega
     clear fp f2 hmc fc fw hx f6 ip ep lp hS hce hle fs f4 ff hx4
     go_upto_region 13 with fail
     generalize wr.alloc (.cells #[.string s, .string t, .slice (some ⟨bc, oc, none⟩) mc cc, .int .i64 x, .int .i64 y, .int .i64 z] 76) = wz at *
     generalize wr.heap.size = b5 at *
     clear d0 d1 d2 d3 d4 d5
     have x2 : wz.cell? ⟨b5, 2, none⟩ = some (.slice (some ⟨bc, oc, none⟩) mc cc) := box_cell EP.out φp.le_refl hS1.out.inv.fz 2
     obtain ⟨q, hq⟩ : ∃ q, Hid (sgI sk = q) := ⟨_, Lib.hid rfl⟩
     have hqz : q = 0 ↔ sk = 0 := by rw [← hq.out]; exact sgI_z
     have LR := Lib.hid φp.le_refl
     obtain ⟨e0, e1, e2⟩ := F4.out wz (hS1.out.inv.fz.sub L1P.out)
     go_upto_region 14 with fail
     clear x2 d9
     by_cases hq0 : q = 0
     ·have hqi : ((q : Int) == 0) = true := by simp [hq0]
      have hqj : ((q : Int) != 0) = false := by simp [hq0]
      have hnx : Hid (os ++ [⟨ws.getD j 0⟩] = (fitL ch ws l mi T n (j + 1)).map (Fx.mk (N := N2) (D := D2))) := Lib.hid (by
       rw [fitL_succ, List.map_append, ← hL.out, hfx.out, if_pos (hqz.1 hq0)]; rfl)
      clear hqz hq0 hRc
      go_upto_region 15 with (go_at_call 76; (with_reducible refine (Sign_P (OwG.sta _ _ _ _ _ _) HX4 LR hq hS1).mono ?_); rintro e w4 ⟨rfl, S4⟩)
      clear e0 e1 e2
      obtain ⟨e0, e1, e2⟩ := F6.out w4 (S4.out.inv.fz.sub S4.out.inv.le)
      have hin := Lib.hid S4.out.inv
      have hon := Lib.hid S4.out.own
      have HREP : Hid (Rep.rep φp (⟨ws.getD j 0⟩ : Fx N2 D2) [.bool g6, .slice a6 k6 c6, .slice a7 k7 c7]) := Lib.hid ⟨g6, a6, k6, c6, a7, k7, c7, rfl, HX.out.le HB2.out.1 HB2.out.2⟩
      go_wp2_with (at_builtin; (refine wpList_app1F (α := Fx N2 D2) rfl _ _ 62 rfl (slFx _ _) hin.out ao co os hon.out #[.bool g6, .slice a6 k6 c6, .slice a7 k7 c7] 70 ⟨ws.getD j 0⟩ HREP.out rfl 1 rfl (by omega) ?_; intro a9 c9 w9 hi9 ho9 hg9 hf9; rw [show (os ++ [(⟨ws.getD j 0⟩ : Fx N2 D2)]).length = os.length + 1 from by rw [List.length_append]; rfl]))
      go_roundw
      case rel => exact ⟨j + 1, a9, c9, os ++ [⟨ws.getD j 0⟩], φp, by omega, by go_num, by rw [List.length_append]; rfl, Lib.hid (by rw [List.length_append, hol.out]; rfl), hnx, LP, Lib.hid ⟨hi9, ho9⟩⟩
      case measure => (simp [intOf] <;> omega)
     ·have hqi : ((q : Int) == 0) = false := by simp [hq0]
      have hqj : ((q : Int) != 0) = true := by simp [hq0]
      have hsk0 : sk ≠ 0 := fun h => hq0 (hqz.2 h)
      have hnx : Hid (os ++ [⟨ch (ws.getD j 0 * (ttQ T ct / sk))⟩] = (fitL ch ws l mi T n (j + 1)).map (Fx.mk (N := N2) (D := D2))) := Lib.hid (by
       rw [fitL_succ, List.map_append, ← hL.out, hfx.out, if_neg hsk0, Rat.div_def, Rat.div_def, Rat.mul_assoc]; rfl)
      have HF := Lib.hid ((hRc.out hsk0).mono LP.out)
      have hCJ : Hid (CH (ws.getD j 0 * (ttQ T ct / sk))) := Lib.hid (hCHj.out hsk0)
      clear hqz hq0 hRc
      generalize rs.getD ct raw0 = ry at *
      obtain ⟨gy, ay, ky, cy, ay', ky', cy'⟩ := ry
      have HF' : Hid (FfX φp (.agg #[.bool gy, .slice ay ky cy, .slice ay' ky' cy']) (ttQ T ct / sk) (N0 * DB) (N0 * NB)) := Lib.hid HF.out
      dsimp only at FF
      go_upto_region 16 with (go_at_call 76; (with_reducible refine (Sign_P (OwG.sta _ _ _ _ _ _) HX4 LR hq hS1).mono ?_); rintro e w4 ⟨rfl, S4⟩)
      clear e0 e1 e2
      have HSd : Hid (OwG w φ φp 70 ao co os w4.drew) := Lib.hid (S4.out.callB (bdrewN (Below.refl _ w4) 1))
      have hcf := Lib.hid (fun (ψ : Phi) (W : World) (hl : Hid (φp.le ψ)) (hf : Fz ψ W) => (⟨(F6.out W (hf.sub (hS1.out.inv.le.trans hl.out))).1, (F6.out W (hf.sub (hS1.out.inv.le.trans hl.out))).2.1, (F6.out W (hf.sub (hS1.out.inv.le.trans hl.out))).2.2, (FF.out W (hf.sub (LP.out.trans hl.out))).1, (FF.out W (hf.sub (LP.out.trans hl.out))).2.1, (FF.out W (hf.sub (LP.out.trans hl.out))).2.2⟩ : W.cell? ⟨bw, ow + j * 3, none⟩ = some (.bool g6) ∧ W.cell? ⟨bw, ow + j * 3 + 1, none⟩ = some (.slice a6 k6 c6) ∧ W.cell? ⟨bw, ow + j * 3 + 2, none⟩ = some (.slice a7 k7 c7) ∧ W.cell? ⟨gf, ct * 3, none⟩ = some (.bool gy) ∧ W.cell? ⟨gf, ct * 3 + 1, none⟩ = some (.slice ay ky cy) ∧ W.cell? ⟨gf, ct * 3 + 2, none⟩ = some (.slice ay' ky' cy')))
      obtain ⟨xx0, xx1, xx2, xx3, xx4, xx5⟩ := hcf.out φp w4.drew LR HSd.out.inv.fz
      have HLP := Lib.hid hS1.out.inv.le
      go_region_held_law (fun w' => w'.cell? ⟨bw, ow + j * 3, none⟩ = some (.bool g6) ∧ w'.cell? ⟨bw, ow + j * 3 + 1, none⟩ = some (.slice a6 k6 c6) ∧ w'.cell? ⟨bw, ow + j * 3 + 2, none⟩ = some (.slice a7 k7 c7) ∧ w'.cell? ⟨gf, ct * 3, none⟩ = some (.bool gy) ∧ w'.cell? ⟨gf, ct * 3 + 1, none⟩ = some (.slice ay ky cy) ∧ w'.cell? ⟨gf, ct * 3 + 2, none⟩ = some (.slice ay' ky' cy')) (first | with_reducible exact ⟨xx0, xx1, xx2, xx3, xx4, xx5⟩ | with_reducible exact ⟨by assumption, by assumption, by assumption, by assumption, by assumption, by assumption⟩ | with_reducible exact ⟨keepAP (by with_reducible assumption), keepAP (by with_reducible assumption), keepAP (by with_reducible assumption), keepAP (by with_reducible assumption), keepAP (by with_reducible assumption), keepAP (by with_reducible assumption)⟩ | fail) (first
       | (refine step_appF (α := Fx N2 D2) (by rfl) _ _ _ (by rfl) (slFx _ _) (SB.out.alloc _).inv ao co os (by rfl) (SB.out.alloc _).own ⟨wB.heap.size, 0, none⟩ 1 [Fx.mk (ch (ws.getD j 0 * (ttQ T ct / sk)))] [.bool gB, .slice aB kB cB, .slice aB' kB' cB'] 1 (by rfl) (by rfl) (RepL.single HREP.out) (new_cells wB #[.bool gB, .slice aB kB cB, .slice aB' kB' cB'] 70) (by show (os.length + 1) * 56 ≤ 140737488355328; omega) ?_; intro a9 c9 w9 hi9 ho9 hg9 hf9; have HF9 := Lib.hid (And.intro hi9 ho9); obtain ⟨gg0, gg1, gg2, gg3, gg4, gg5⟩ := hcf.out φB w9 LB hi9.fz; clear hi9 ho9 hg9 hf9)
       | (go_simp; go_at_call 45; (with_reducible refine (hch.out _ _ _ _ _ _ (OwG.sta w φ 70 ao co os) hCJ (Lib.hid (HLP.out.trans LA.out)) SA VA (Lib.hid φA.le_refl)).mono ?_); rintro e wB ⟨gB, aB, kB, cB, aB', kB', cB', φB, rfl, SB, LB0, VB⟩; have LB := Lib.hid (LA.out.trans LB0.out); have HREP : Hid (Rep.rep φB (⟨ch (ws.getD j 0 * (ttQ T ct / sk))⟩ : Fx N2 D2) [.bool gB, .slice aB kB cB, .slice aB' kB' cB']) := Lib.hid ⟨gB, aB, kB, cB, aB', kB', cB', rfl, VB.out⟩; obtain ⟨ee0, ee1, ee2, ee3, ee4, ee5⟩ := hcf.out φB wB LB SB.out.inv.fz)
       | (go_simp; go_at_call 78; (with_reducible refine (Times_P (OwG.sta w φ 70 ao co os) hD hM HX LR HF' LR HBT hrefl HSd).mono ?_); rintro e wA ⟨gA, aA, kA, cA, aA', kA', cA', φA, rfl, SA, LA, VA⟩; obtain ⟨dd0, dd1, dd2, dd3, dd4, dd5⟩ := hcf.out φA wA LA SA.out.inv.fz)
       | fail)
      all_goals
       go_wp2
       go_roundw
       case rel => exact ⟨j + 1, a9, c9, os ++ [⟨ch (ws.getD j 0 * (ttQ T ct / sk))⟩], φB, by omega, by go_num, by rw [List.length_append]; rfl, Lib.hid (by rw [List.length_append, hol.out]; rfl), hnx, Lib.hid (LP.out.trans LB.out), Lib.hid ⟨HF9.out.1, HF9.out.2⟩⟩
       case measure => (simp [intOf] <;> omega)
    ·obtain rfl : j = n := by omega
     obtain ⟨φ3, hl3, hi3, hs3, _⟩ := hS.out.own.release hS.out.inv
     rw [hL.out] at hs3
     have HI3 := Lib.hid hi3
     have HS3 := Lib.hid hs3
     clear hi3 hs3 hS hl3
     rw [hol.out]
     go_wp2
     go_ret
     exact ⟨ao, co, φ3, (by rw [List.length_map, fitL_len]; rfl), HI3.out, HS3.out⟩
end Go.Proofs.YtmlpjffnmkndoaaGreatDoor

namespace Go.Proofs.YtmlpjffnmkndoaaGreatDoor
open Go.RowKit
set_option linter.unusedVariables false
set_option linter.unusedSimpArgs false
theorem keepDr {w : World} {a : Addr} {v : Value} (h : w.cell? a = some v) : w.drew.cell? a = some v := h
theorem SmS.staD (E : TypeId) (w0 : World) (φ0 : Phi) (b c : Nat) (cs : Array Value) : Sta (fun φ W => SmS E w0 φ0 φ b c cs W) := ⟨fun h => h.s.inv.fz, fun h hi => h.call hi⟩
/-- A sum's cells, and perhaps one box more. -/
structure SmN (E : TypeId) (w0 : World) (φ0 φ : Phi) (b c : Nat) (cs : Array Value) (q : Option Nat) (ds : Array Value) (W : World) : Prop where
 m : SmS E w0 φ0 φ b c cs W
 o : ∀ x, q = some x → RsSt w0 φ0 φ x ds E W
 n : ∀ x, q = some x → x ≠ b ∧ x ≠ c
section
variable {E : TypeId} {w0 W w' : World} {φ0 φ φ' : Phi} {b c x : Nat} {cs ds : Array Value} {o : Option Nat}
theorem SmN.call (h : SmN E w0 φ0 φ b c cs o ds W) (hi : Inv W.heap.size W φ φ' w') : SmN E w0 φ0 φ' b c cs o ds w' := ⟨h.m.call hi, fun x hx => (h.o x hx).call hi, h.n⟩
theorem SmN.callB (h : SmN E w0 φ0 φ b c cs o ds W) (hb : Below W.heap.size W w') : SmN E w0 φ0 φ b c cs o ds w' := ⟨h.m.callB hb, fun x hx => (h.o x hx).callB hb, h.n⟩
theorem SmN.drew (h : Hid (SmN E w0 φ0 φ b c cs o ds W)) : Hid (SmN E w0 φ0 φ b c cs o ds W.drew) := Lib.hid (h.out.callB (bdrewN (Below.refl _ W) 1))
theorem SmN.none (h : SmS E w0 φ0 φ b c cs W) (ds : Array Value) : SmN E w0 φ0 φ b c cs Option.none ds W := ⟨h, fun x hx => (by cases hx), fun x hx => (by cases hx)⟩
theorem SmN.mk1 (h : SmS E w0 φ0 φ b c cs W) (ds : Array Value) : SmN E w0 φ0 φ b c cs (some W.heap.size) ds (W.alloc (.cells ds E)) :=
 ⟨h.callB ((Below.refl _ _).alloc (Nat.le_refl _) _), fun x hx => (by cases hx; exact RsSt.start h.s.inv _ _), fun x hx => by
  cases hx
  have h1 := h.r.k.lt
  have h2 := h.s.k.lt
  exact ⟨by omega, by omega⟩⟩
theorem SmN.al (h : Hid (SmN E w0 φ0 φ b c cs Option.none #[.bool false, .slice Option.none 0 0, .slice Option.none 0 0] W)) : Hid (SmN E w0 φ0 φ b c cs (some W.heap.size) #[.bool false, .slice Option.none 0 0, .slice Option.none 0 0] (W.alloc (.cells #[.bool false, .slice Option.none 0 0, .slice Option.none 0 0] E))) := Lib.hid (SmN.mk1 h.out.m _)
theorem SmN.facts {u0 u1 u2 : Value} (h : Hid (SmN E w0 φ0 φ b c cs (some x) #[u0, u1, u2] W)) : W.cell? ⟨x, 0, Option.none⟩ = some u0 ∧ W.cell? ⟨x, 1, Option.none⟩ = some u1 ∧ W.cell? ⟨x, 2, Option.none⟩ = some u2 ∧ W.frozen? ⟨x, 0, Option.none⟩ = false ∧ W.frozen? ⟨x, 1, Option.none⟩ = false ∧ W.frozen? ⟨x, 2, Option.none⟩ = false :=
 ⟨(h.out.o x rfl).k.cell 0, (h.out.o x rfl).k.cell 1, (h.out.o x rfl).k.cell 2, (h.out.o x rfl).k.frz 0, (h.out.o x rfl).k.frz 1, (h.out.o x rfl).k.frz 2⟩
theorem SmS.setNe {g : Nat} (h : SmS E w0 φ0 φ b c cs W) (hg : w0.heap.size ≤ g) (hf : φ g = Option.none) (h1 : g ≠ b) (h2 : g ≠ c) (j : Nat) (u : Value) : SmS E w0 φ0 φ b c cs (W.setCell ⟨g, j, Option.none⟩ u) := ⟨h.r.setNe hg hf h1 j u, h.s.setNe hg hf h2 j u, h.ne⟩
theorem SmN.put {v0 v1 v2 : Value} (h : Hid (SmN E w0 φ0 φ b c cs (some x) #[v0, v1, v2] W)) (u0 u1 u2 : Value) : SmN E w0 φ0 φ b c cs (some x) #[u0, u1, u2] (((W.setCell ⟨x, 0, Option.none⟩ u0).setCell ⟨x, 1, Option.none⟩ u1).setCell ⟨x, 2, Option.none⟩ u2) := by
 have hr := h.out.o x rfl
 obtain ⟨n1, n2⟩ := h.out.n x rfl
 exact ⟨((h.out.m.setNe hr.l hr.f n1 n2 0 u0).setNe hr.l hr.f n1 n2 1 u1).setNe hr.l hr.f n1 n2 2 u2, fun y hy => (by cases hy; exact ((hr.set 0 u0).set 1 u1).set 2 u2), fun y hy => (by cases hy; exact ⟨n1, n2⟩)⟩
theorem SmN.sta (E : TypeId) (w0 : World) (φ0 : Phi) (b c : Nat) (cs : Array Value) (o : Option Nat) (ds : Array Value) : Sta (fun φ W => SmN E w0 φ0 φ b c cs o ds W) := ⟨fun h => h.m.s.inv.fz, fun h hi => h.call hi⟩
/-- The box frozen. -/
theorem SmN.frz (h : SmN E w0 φ0 φ b c cs (some x) ds W) : ∃ φ', φ.le φ' ∧ SmS E w0 φ0 φ' b c cs W ∧ φ' x = some (.cells ds E) := by
 have hr := h.o x rfl
 obtain ⟨n1, n2⟩ := h.n x rfl
 obtain ⟨φ1, l1, i1, e1, f1⟩ := hr.inv.frzAt hr.k hr.l
 exact ⟨φ1, l1, ⟨⟨i1, h.m.r.k, by rw [f1 b (Ne.symm n1)]; exact h.m.r.f, h.m.r.l⟩, ⟨i1, h.m.s.k, by rw [f1 c (Ne.symm n2)]; exact h.m.s.f, h.m.s.l⟩, h.m.ne⟩, e1⟩
end
theorem rat_false_nn (n d : Nat) : 0 ≤ rat false n d := by
 rw [rat_div]
 exact Rat.divInt_nonneg (by simp [sgn]) (by omega)
theorem abQ_rat {neg : Bool} {n d : Nat} {x : Rat} (hx : rat neg n d = x) : rat false n d = abQ x := by
 subst hx
 have h0 := rat_false_nn n d
 unfold abQ
 cases neg
 ·rw [if_neg (Rat.not_lt.2 h0)]
 ·rw [show rat true n d = - rat false n d from rat_neg_eq false n d]
  split
  ·grind
  ·grind
set_option maxHeartbeats 1000000 in
theorem Abs_any {v : Value} {x : Rat} {N D : Nat} {w : World} {φ : Phi} (hφ : Fz φ w) (hv : FfX φ v x N D) :
  Calls Tryz.prog 91 #[v] w (FfXP (abQ x) N D φ w) := by
 obtain ⟨g1, n1, d1, p1, p2, a1, c1, a2, c2, rfl, s1, s2, l1, l2, hd, hn, hD, hx⟩ := hv.open
 have hBX0 := RsSt.start (Inv.start hφ) #[.bool g1, .slice a1 p1 c1, .slice a2 p2 c2] 70
 have hRS0 := RsSt.start hBX0.inv #[.bool false, .slice none 0 0, .slice none 0 0] 70
 have hBX1 := (hBX0.callB ((Below.refl _ _).alloc (Nat.le_refl _) (.cells #[.bool false, .slice none 0 0, .slice none 0 0] 70)))
 rw [alloc_sz] at hRS0
 have HF : Hid (FfX φ (.agg #[.bool false, .slice a1 p1 c1, .slice a2 p2 c2]) (abQ x) N D) := Lib.hid (FfX.of s1 s2 l1 l2 hd hn hD (abQ_rat hx))
 have HX := Lib.hid hBX1
 have HR := Lib.hid hRS0
 clear hφ hv s1 s2 hBX0 hRS0 hBX1
 go_enter Tryz.func91, Tryz.ntmps91
 go_upto_region 1 with fail
 obtain ⟨bb, hbb⟩ : ∃ b, w.heap.size = b := ⟨_, rfl⟩
 have HBB := Lib.hid hbb
 generalize (w.alloc (.cells #[.bool g1, .slice a1 p1 c1, .slice a2 p2 c2] 70)).alloc (.cells #[.bool false, .slice none 0 0, .slice none 0 0] 70) = wx at *
 rw [hbb] at HX HR ⊢
 clear hbb
 have z0 : wx.cell? ⟨bb, 0, none⟩ = some (.bool g1) := HX.out.k.cell 0
 have z1 : wx.cell? ⟨bb, 1, none⟩ = some (.slice a1 p1 c1) := HX.out.k.cell 1
 have z2 : wx.cell? ⟨bb, 2, none⟩ = some (.slice a2 p2 c2) := HX.out.k.cell 2
 have z3 := HX.out.k.frz 0
 go_upto_region 2 with fail
 have HX2 := Lib.hid (HX.out.set 0 (.bool false))
 have HR2 := Lib.hid (HR.out.oth HX.out (by omega : bb ≠ bb + 1) 0 (.bool false))
 generalize wx.setCell ⟨bb, 0, none⟩ (.bool false) = wy at *
 clear z0 z1 z2 z3
 have x0 : wy.cell? ⟨bb, 0, none⟩ = some (.bool false) := HX2.out.k.cell 0
 have x1 : wy.cell? ⟨bb, 1, none⟩ = some (.slice a1 p1 c1) := HX2.out.k.cell 1
 have x2 : wy.cell? ⟨bb, 2, none⟩ = some (.slice a2 p2 c2) := HX2.out.k.cell 2
 obtain ⟨y0, y1, y2, y3, y4, y5⟩ := HR2.out.facts
 go_wp2
 have hIZ := Lib.hid (((HR2.out.inv.setCell HR2.out.l HR2.out.f (off := 0) (Value.bool false)).setCell HR2.out.l HR2.out.f (off := 1) (Value.slice a1 p1 c1)).setCell HR2.out.l HR2.out.f (off := 2) (Value.slice a2 p2 c2))
 have hBZ := Lib.hid (((HR2.out.k.set 0 (Value.bool false)).set 1 (Value.slice a1 p1 c1)).set 2 (Value.slice a2 p2 c2))
 have e0 : _ = some (Value.bool false) := hBZ.out.cell 0
 have e1 : _ = some (Value.slice a1 p1 c1) := hBZ.out.cell 1
 have e2 : _ = some (Value.slice a2 p2 c2) := hBZ.out.cell 2
 (try simp only [Exit.inBlock, Exit.then])
 refine bodyPost_ret (v := .agg #[(Value.bool false), (Value.slice a1 p1 c1), (Value.slice a2 p2 c2)]) (by simp [results, Tryz.results91, go_sem, e0, e1, e2]) rfl ?_
 exact ⟨_, φ, rfl, hIZ.out, HF.out⟩
theorem Abs_P {P : Phi → World → Prop} (hP : Sta P) {v : Value} {x : Rat} {N D : Nat} {φ ψ : Phi} {W : World} (hS : Hid (P φ W)) (h1 : Hid (FfX ψ v x N D)) (hl : Hid (ψ.le φ)) :
  Calls Tryz.prog 91 #[v] W (FfS P φ (abQ x) N D) :=
 (Abs_any (hP.fz hS.out) (h1.out.mono hl.out)).mono (fun en w' hp => FfS.of hP (Nat.le_refl _) (Nat.le_refl _) hS hp)
set_option maxRecDepth 100000 in
set_option maxHeartbeats 4000000 in
theorem distance_any {M : Nat} (hD : Hid (DivOk M)) (hM : LenB M) (hM2 : p10 2000 ≤ M) {N : Nat} (hN : Hid (N = 1000000000000)) (hN1 : 1 ≤ N) {n : Nat} (hB : Hid (RkB M N n)) {m : List Mgn} {nm cm : Nat} {a0 : Option Addr} {al : Option Addr} {cl : Nat} {l : List Psn} {aw : Option Addr} {cw : Nat} {ws : List Rat} {w : World} {φ : Phi} (hφ : Fz φ w) (sm : SlV φ a0 cm m) (hnm : Hid (m.length = nm)) (hnm8 : nm ≤ 8) (hnt40 : Hid (∀ i, i < nm → (m.getD i mgn0).2.length ≤ 40)) (hT : Hid (∀ i, i < nm → ∀ r ∈ (m.getD i mgn0).2, RtiG r ∧ shoF r.1 r.2 = 0)) (sl : SlV φ al cl l) (hn : Hid (l.length = n)) (sw : SlV φ aw cw (ws.map (Fx.mk (N := N * N) (D := N)))) (hw : Hid (ws.length = n)) (hn3 : n ≤ 3000) (hc : Hid (∀ i, i < nm → ∀ j, j < n → i < (l.getD j psn0).2.1.length ∧ ∃ c : Nat, c < (m.getD i mgn0).2.length ∧ celI l i j = (c : Int))) :
  Calls Tryz.prog 43 #[.slice a0 nm cm, .slice al n cl, .slice aw n cw] w (FfXP (dsM ws m l n nm) (n * (N * N) * N ^ n * N + N * N ^ n) (N ^ n * N) φ w) := by
 have HM2 := Lib.hid hM2
 have HSM := Lib.hid sm
 have HCS := Lib.hid (fun (k : Nat) (hk : k < nm) (nt : Nat) (hnt9 : Hid ((m.getD k mgn0).2.length = nt)) (ψ : Phi) (W : World) (hf : Fz ψ W) (hl : φ.le ψ) => cellSums_any hD hM hN1 hB.out.f.c1 hB.out.f.c2 hf (sm.mono hl) hnm hk hnt9 (sl.mono hl) hn (sw.mono hl) hw hn3 (by rw [← hnt9.out]; exact hnt40.out k hk) (by omega) (Lib.hid (fun j hj => by rw [← hnt9.out]; exact hc.out k hk j hj)))
 have hnml : nm ≤ 9223372036854775807 := by omega
 have hRS := Lib.hid (RsSt.start (Inv.start hφ) #[.bool false, .slice none 0 0, .slice none 0 0] 70)
 obtain ⟨⟨h1, h2, _, _, _, _, _, _, _, _⟩, _, _, h3, h4, h5, h6, _, _, _, _⟩ := hB.out
 obtain ⟨NB, hNB⟩ : ∃ x, n * (N * N) * N ^ n = x := ⟨_, rfl⟩
 obtain ⟨DB, hDB⟩ : ∃ x, N ^ n = x := ⟨_, rfl⟩
 have hDB1 : 1 ≤ DB := by rw [← hDB]; exact Nat.pow_pos hN1
 rw [hNB, hDB] at HCS ⊢
 rw [hNB] at h3 h5
 rw [hDB] at h3 h4 h5 h6
 obtain ⟨ND, hND⟩ : ∃ x, NB * N + N * DB = x := ⟨_, rfl⟩
 obtain ⟨DD, hDD⟩ : ∃ x, DB * N = x := ⟨_, rfl⟩
 have hDD1 : 1 ≤ DD := by rw [← hDD]; exact Nat.mul_pos hDB1 hN1
 have HBM := Lib.hid (And.intro h3 h4)
 have HMR : Hid (NB * N + N * DB ≤ ND ∧ DB * N ≤ DD) := Lib.hid ⟨Nat.le_of_eq hND, Nat.le_of_eq hDD⟩
 rw [hND, hDD] at h5 ⊢
 rw [hDD] at h6
 have HBC := Lib.hid (And.intro h5 h6)
 have hC0 := Lib.hid (fun (ψ : Phi) W (hf : Fz ψ W) => FracInt_any (n := 0) (by decide) (by decide) hf)
 rw [show ((0 : Int) : Rat) = 0 from rfl, show (0 : Int).natAbs = 0 from rfl] at hC0
 clear hφ sm sl sw hM2 h1 h2 h3 h4 h5 h6 hND hDD hNB hDB
 go_enter Tryz.func43, Tryz.ntmps43
 go_upto_region 1 with fail
 generalize w.alloc (.cells #[.bool false, .slice none 0 0, .slice none 0 0] 70) = wx at *
 obtain ⟨b2, hb2⟩ : ∃ b, w.heap.size = b := ⟨_, rfl⟩
 rw [hb2] at hRS ⊢
 have HB2 := Lib.hid hb2
 clear hb2
 go_upto_region 2 with (go_at_call 89; (with_reducible refine (hC0.out φ _ hRS.out.inv.fz).mono ?_); rintro e w4 ⟨v4, φ4, rfl, hi4, hv4⟩; obtain ⟨g4, n4, m4, k4, k5, a4, c4, a5, c5, rfl, _⟩ := hv4.open; have hR4 := hRS.out.call hi4; have hS4 := Lib.hid (SmS.mk (hR4.callB ((Below.refl _ _).alloc (Nat.le_refl _) (.cells #[.bool g4, .slice a4 k4 c4, .slice a5 k5 c5] 70))) (RsSt.start hR4.inv #[.bool g4, .slice a4 k4 c4, .slice a5 k5 c5] 70) (by have := hR4.k.lt; omega)); have HV4 := Lib.hid (hv4.le (Nat.zero_le ND) hDD1); have L4 := Lib.hid hi4.le; clear hi4 hv4 hR4)
 generalize w4.alloc (.cells #[.bool g4, .slice a4 k4 c4, .slice a5 k5 c5] 70) = wb at *
 generalize w4.heap.size = b3 at *
 clear hRS hC0
 go_wp2
 go_loopw [16] (fun iv wr => ∃ (k : Nat) (φ' : Phi) (g : Bool) (a1 : Option Addr) (k1 c1 : Nat) (a2 : Option Addr) (k2 c2 : Nat), k ≤ nm ∧ iv = .int .i64 (k : Int) ∧ Hid (SmS 70 w φ φ' b2 b3 #[.bool g, .slice a1 k1 c1, .slice a2 k2 c2] wr) ∧ Hid (FfX φ' (.agg #[.bool g, .slice a1 k1 c1, .slice a2 k2 c2]) (dsM ws m l n k) ND DD)) (fun iv _ => nm - (intOf iv).toNat)
 case atStart => exact ⟨0, φ4, g4, a4, k4, c4, a5, k5, c5, Nat.zero_le _, rfl, hS4, HV4⟩
 case round =>
  clear hS4 HV4
  obtain ⟨i, φ', g1, a1, k1, c1, a2, k2, c2, hi, rfl, hS, hV⟩ := hrel
  by_cases hil : i < nm
  ·have hili : (i : Int) < (nm : Int) := by omega
   obtain ⟨bm, om, hbm, fm⟩ := HSM.out.mgnsD hnm hil
   obtain ⟨ar, cr, sr, f1⟩ := fm i hil
   obtain ⟨d0, d1⟩ := f1 wr (hS.out.s.inv.fz.sub hS.out.s.inv.le)
   obtain ⟨nt, hnt9⟩ : ∃ x, Hid ((m.getD i mgn0).2.length = x) := ⟨_, Lib.hid rfl⟩
   rw [hnt9.out] at d1
   have hnt : nt ≤ 40 := by rw [← hnt9.out]; exact hnt40.out i hil
   have hTi := Lib.hid (hT.out i hil)
   have hC := Lib.hid (HCS.out i hil nt hnt9)
   have hdM : Hid (dsM ws m l n (i + 1) = dsC (fun (c : Nat) => celQ (fun j => ws.getD j 0) l i (c : Int) n) (m.getD i mgn0).2 nt (dsM ws m l n i)) := Lib.hid (by rw [← hnt9.out]; rfl)
   cases hbm
   generalize (m.getD i mgn0).1 = nk at *
   obtain ⟨T, hTT⟩ : ∃ T, (m.getD i mgn0).2 = T := ⟨_, rfl⟩
   rw [hTT] at hnt9 hTi sr hdM
   obtain ⟨s, hs⟩ : ∃ s : Nat → Rat, s = fun (c : Nat) => celQ (fun j => ws.getD j 0) l i (c : Int) n := ⟨_, rfl⟩
   rw [← hs] at hdM
   have hS_ : Hid (∀ c, c < nt → (celR ws l i nt n).getD c 0 = s c) := Lib.hid (fun c h => by rw [hs]; exact celR_get h)
   obtain ⟨φp, lp, ip, ep⟩ := (Inv.start hS.out.s.inv.fz).frz (.cells #[.string nk, .slice ar nt cr] 30)
   have hS1 := Lib.hid (hS.out.call ip)
   have HV1 := Lib.hid (hV.out.mono lp)
   have EP := Lib.hid ep
   have SR := Lib.hid (sr.mono hS1.out.s.inv.le)
   have hsl : Hid (((celR ws l i nt n).map (Fx.mk (N := NB) (D := DB))).length = nt) := Lib.hid (by simp [celR])
   clear fm f1 sr hTT hs ip ep lp hS hV
   go_upto_region 5 with fail
   generalize wr.alloc (.cells #[.string nk, .slice ar nt cr] 30) = wz at *
   generalize wr.heap.size = b5 at *
   clear d0 d1
   go_upto_region 6 with (go_at_call 53; (with_reducible refine (hC.out _ _ hS1.out.s.inv.fz hS1.out.s.inv.le).mono ?_); rintro e w5 ⟨a8, c8, φ5, rfl, hi5, s5⟩; rw [hsl.out]; have hS5 := Lib.hid (hS1.out.call hi5); have HV5 := Lib.hid (HV1.out.mono hi5.le); have EP5 := Lib.hid (hi5.le _ _ EP.out); have SS := Lib.hid s5; have SR5 := Lib.hid (SR.out.mono hi5.le); clear hi5 s5)
   have HD0 : Hid (FfX φ5 (.agg #[.bool g1, .slice a1 k1 c1, .slice a2 k2 c2]) (dsC s T 0 (dsM ws m l n i)) ND DD) := HV5
   clear hS1 HV1 EP SR HV5
   go_loopw [27] (fun iv wr => ∃ (k : Nat) (φ' : Phi) (g : Bool) (a1 : Option Addr) (k1 c1 : Nat) (a2 : Option Addr) (k2 c2 : Nat), k ≤ nt ∧ iv = .int .i64 (k : Int) ∧ Hid (φ5.le φ') ∧ Hid (SmS 70 w φ φ' b2 b3 #[.bool g, .slice a1 k1 c1, .slice a2 k2 c2] wr) ∧ Hid (FfX φ' (.agg #[.bool g, .slice a1 k1 c1, .slice a2 k2 c2]) (dsC s T k (dsM ws m l n i)) ND DD)) (fun iv _ => nt - (intOf iv).toNat)
   case atStart => exact ⟨0, φ5, g1, a1, k1, c1, a2, k2, c2, Nat.zero_le _, rfl, Lib.hid φ5.le_refl, hS5, HD0⟩
   case round =>
    clear hS5 HD0
    obtain ⟨k, φ', g1, a1, k1, c1, a2, k2, c2, hk, rfl, hle, hS, hV⟩ := hrel
    by_cases hlt : k < nt
    ·have hlti : (k : Int) < (nt : Int) := by omega
     obtain ⟨bs, os_, rfl, fs⟩ := SS.out.fxD hsl hlt
     obtain ⟨g6, a6, k6, c6, a7, k7, c7, hx, f6⟩ := fs k hlt
     rw [fx_getD, hS_.out k hlt] at hx
     obtain ⟨e0, e1, e2⟩ := f6 wr (hS.out.s.inv.fz.sub hle.out)
     obtain ⟨bt, ot, rfl, ft⟩ := SR5.out.rtisD hnt9 hlt
     have FT := Lib.hid (ft k hlt)
     have hm : T.getD k rti0 ∈ T := by rw [getD_elem0 _ _ _ (by rw [hnt9.out]; exact hlt)]; exact List.getElem_mem _
     obtain ⟨hg1, hg2⟩ := hTi.out _ hm
     have htq : ttQ T k = ratX (T.getD k rti0).1 (T.getD k rti0).2 := rfl
     generalize T.getD k rti0 = p at *
     obtain ⟨s1, t1⟩ := p
     dsimp only at hg2 htq FT
     have hsz : Hid (s1.size ≤ 9223372036854775807 ∧ t1.size ≤ 9223372036854775807) := Lib.hid hg1
     have hrf := Lib.hid (shoF_ok hg2).1
     have hbd : Hid (dV (bodyB s1).data.toList ≤ N ∧ dV t1.data.toList ≤ N) := Lib.hid (by rw [hN.out]; exact sho_lt hg2)
     have hxt : Hid (ratX s1 t1 = ttQ T k) := Lib.hid htq.symm
     obtain ⟨φp, lp, ip, ep⟩ := (Inv.start hS.out.s.inv.fz).frz (.cells #[.bool g6, .slice a6 k6 c6, .slice a7 k7 c7] 70)
     have hS1 := Lib.hid (hS.out.call ip)
     have LP := Lib.hid (hle.out.trans lp)
     have EP := Lib.hid ep
     have EM := Lib.hid (LP.out _ _ EP5.out)
     have HX := Lib.hid ((hx.mono hle.out).mono lp)
     have HV1 := Lib.hid (hV.out.mono lp)
     clear fs f6 hx ft hm hg1 hg2 htq ip ep lp hS hV hle
     go_upto_region 8 with fail
     generalize wr.alloc (.cells #[.bool g6, .slice a6 k6 c6, .slice a7 k7 c7] 70) = wz at *
     generalize wr.heap.size = b7 at *
     clear e0 e1 e2
     have NB0 : Hid (SmN 70 w φ φp b2 b3 #[.bool g1, .slice a1 k1 c1, .slice a2 k2 c2] none #[.bool false, .slice none 0 0, .slice none 0 0] wz) := Lib.hid (SmN.none hS1.out _)
     have NBd := SmN.drew NB0
     have NBa := SmN.drew (SmN.al NB0)
     have LR := Lib.hid φp.le_refl
     have hcf := Lib.hid (fun (ψ : Phi) (W : World) (hl : Hid (φp.le ψ)) (hf : Fz ψ W) => (⟨box_cell EP.out hl.out hf 0, box_cell EP.out hl.out hf 1, box_cell EP.out hl.out hf 2, box_cell EM.out hl.out hf 1, (FT.out W (hf.sub (LP.out.trans hl.out))).1, (FT.out W (hf.sub (LP.out.trans hl.out))).2⟩ : W.cell? ⟨b7, 0, none⟩ = some (.bool g6) ∧ W.cell? ⟨b7, 1, none⟩ = some (.slice a6 k6 c6) ∧ W.cell? ⟨b7, 2, none⟩ = some (.slice a7 k7 c7) ∧ W.cell? ⟨b5, 1, none⟩ = some (.slice (some ⟨bt, ot, none⟩) nt cr) ∧ W.cell? ⟨bt, ot + k * 2, none⟩ = some (.string s1) ∧ W.cell? ⟨bt, ot + k * 2 + 1, none⟩ = some (.string t1)))
     obtain ⟨x0, x1, x2, x3, x4, x5⟩ := hcf.out φp wz.drew LR NBd.out.m.s.inv.fz
     obtain ⟨y0, y1, y2, y3, y4, y5⟩ := hcf.out φp wz LR NB0.out.m.s.inv.fz
     have hfn := Lib.hid (fun (ψ : Phi) (x : Nat) (W : World) (hl : Hid (φp.le ψ)) (h : Hid (SmN 70 w φ ψ b2 b3 #[.bool g1, .slice a1 k1 c1, .slice a2 k2 c2] (some x) #[.bool false, .slice none 0 0, .slice none 0 0] W)) (u0 u1 u2 : Value) => hcf.out ψ _ hl (SmN.put h u0 u1 u2).m.s.inv.fz)
     apply wp_region_cutV (fun (i : Nat × Value × Value × Bool × Option Addr × Nat × Nat × Option Addr × Nat × Nat) => [(32, .agg #[.bool g6, .slice a6 k6 c6, .slice a7 k7 c7]), (33, .pointer (some ⟨b5, 1, none⟩)), (34, .slice (some ⟨bt, ot, none⟩) nt cr), (35, .int .i64 (k : Int)), (36, .pointer (some ⟨bt, ot + k * 2, none⟩)), (37, .agg #[.string s1, .string t1]), (38, i.2.1), (39, i.2.2.1), (40, .agg #[.bool i.2.2.2.1, .slice i.2.2.2.2.1 i.2.2.2.2.2.1 i.2.2.2.2.2.2.1, .slice i.2.2.2.2.2.2.2.1 i.2.2.2.2.2.2.2.2.1 i.2.2.2.2.2.2.2.2.2]), (12, .pointer (some ⟨i.1, 0, none⟩))])
      (fun i W => Hid (∃ φ3, φp.le φ3 ∧ SmN 70 w φ φ3 b2 b3 #[.bool g1, .slice a1 k1 c1, .slice a2 k2 c2] (some i.1) #[.bool i.2.2.2.1, .slice i.2.2.2.2.1 i.2.2.2.2.2.1 i.2.2.2.2.2.2.1, .slice i.2.2.2.2.2.2.2.1 i.2.2.2.2.2.2.2.2.1 i.2.2.2.2.2.2.2.2.2] W ∧ FfX φ3 (.agg #[.bool i.2.2.2.1, .slice i.2.2.2.2.1 i.2.2.2.2.2.1 i.2.2.2.2.2.2.1, .slice i.2.2.2.2.2.2.2.1 i.2.2.2.2.2.2.2.2.1 i.2.2.2.2.2.2.2.2.2]) (abQ (s k - ttQ T k)) ND DD))
     case h1 =>
      intro KK hKK
      go_region_held3 (fun w' => w'.cell? ⟨b7, 0, none⟩ = some (.bool g6) ∧ w'.cell? ⟨b7, 1, none⟩ = some (.slice a6 k6 c6) ∧ w'.cell? ⟨b7, 2, none⟩ = some (.slice a7 k7 c7) ∧ w'.cell? ⟨b5, 1, none⟩ = some (.slice (some ⟨bt, ot, none⟩) nt cr) ∧ w'.cell? ⟨bt, ot + k * 2, none⟩ = some (.string s1) ∧ w'.cell? ⟨bt, ot + k * 2 + 1, none⟩ = some (.string t1)) (first | with_reducible exact ⟨x0, x1, x2, x3, x4, x5⟩ | with_reducible exact ⟨by assumption, by assumption, by assumption, by assumption, by assumption, by assumption⟩ | with_reducible exact ⟨keepAP (by with_reducible assumption), keepAP (by with_reducible assumption), keepAP (by with_reducible assumption), keepAP (by with_reducible assumption), keepAP (by with_reducible assumption), keepAP (by with_reducible assumption)⟩ | with_reducible exact ⟨keepDr (keepAP (by with_reducible assumption)), keepDr (keepAP (by with_reducible assumption)), keepDr (keepAP (by with_reducible assumption)), keepDr (keepAP (by with_reducible assumption)), keepDr (keepAP (by with_reducible assumption)), keepDr (keepAP (by with_reducible assumption))⟩ | with_reducible exact hfn.out _ _ _ (Lib.hid (LA.out.trans (LB.out.trans LC.out))) SC _ _ _ | fail) (first
       | ((first | (with_reducible refine (Abs_P (SmN.sta _ _ _ _ _ _ _ _) SB VB (Lib.hid φB.le_refl)).mono ?_) | (with_reducible refine (Abs_P (SmN.sta _ _ _ _ _ _ _ _) (SmN.al SB) VB (Lib.hid φB.le_refl)).mono ?_)); rintro en wC ⟨gC, aC, kC, cC, aC', kC', cC', φC, rfl, SC, LC, VC⟩; (try (have vv := SmN.facts SC; obtain ⟨v20, v21, v22, v23, v24, v25⟩ := vv)); obtain ⟨q0, q1, q2, q3, q4, q5⟩ := hcf.out φC wC (Lib.hid (LA.out.trans (LB.out.trans LC.out))) SC.out.m.s.inv.fz)
       | ((first | (with_reducible refine (Minus_P (SmN.sta _ _ _ _ _ _ _ _) hD hM HX LA VA (Lib.hid φA.le_refl) HBM HMR SA).mono ?_) | (with_reducible refine (Minus_P (SmN.sta _ _ _ _ _ _ _ _) hD hM HX LA VA (Lib.hid φA.le_refl) HBM HMR (SmN.al SA)).mono ?_)); rintro en wB ⟨gB, aB, kB, cB, aB', kB', cB', φB, rfl, SB, LB, VB⟩; (try (have vv := SmN.facts SB; obtain ⟨v10, v11, v12, v13, v14, v15⟩ := vv)); obtain ⟨p0, p1, p2, p3, p4, p5⟩ := hcf.out φB wB (Lib.hid (LA.out.trans LB.out)) SB.out.m.s.inv.fz)
       | ((first | (with_reducible refine (FracOf_P (SmN.sta _ _ _ _ _ _ _ _) hD HM2.out hsz hrf hxt hbd NBd).mono ?_) | (with_reducible refine (FracOf_P (SmN.sta _ _ _ _ _ _ _ _) hD HM2.out hsz hrf hxt hbd NBa).mono ?_)); rintro en wA ⟨gA, aA, kA, cA, aA', kA', cA', φA, rfl, SA, LA, VA⟩; (try (have vv := SmN.facts SA; obtain ⟨v00, v01, v02, v03, v04, v05⟩ := vv)); obtain ⟨o0, o1, o2, o3, o4, o5⟩ := hcf.out φA wA LA SA.out.m.s.inv.fz)
       | fail)
      all_goals
       refine onlyN_mk ?_
       have hk9 := fun x W s => hKK.out (x, .agg #[.bool gA, .slice aA kA cA, .slice aA' kA' cA'], .agg #[.bool gB, .slice aB kB cB, .slice aB' kB' cB'], gC, aC, kC, cC, aC', kC', cC') W s
       simp only [updA, List.foldl_cons, List.foldl_nil, List.setIfInBounds_toArray, List.set_cons_succ, List.set_cons_zero] at hk9
       refine hk9 _ _ (Lib.hid ⟨φC, LA.out.trans (LB.out.trans LC.out), ?_, VC.out⟩)
       first
        | with_reducible exact SmN.mk1 SC.out.m _
        | with_reducible exact SmN.put SC _ _ _
     case h2 =>
      rintro ⟨bd, vA, vB, gD, aD, kD, cD, aD', kD', cD'⟩ W9 hF9
      simp only [updA, List.foldl_cons, List.foldl_nil, List.setIfInBounds_toArray, List.set_cons_succ, List.set_cons_zero]
      obtain ⟨φ3, hl3, hN3, hV3⟩ := hF9.out
      obtain ⟨φ4', l4, hS4, e4⟩ := hN3.frz
      have S9 := Lib.hid hS4
      have E9 := Lib.hid e4
      have VD := Lib.hid (hV3.mono l4)
      have VO := Lib.hid ((HV1.out.mono hl3).mono l4)
      have L9 := Lib.hid (LP.out.trans (hl3.trans l4))
      have LR9 := Lib.hid φ4'.le_refl
      clear hF9 hl3 hN3 hV3 l4 hS4 e4 x0 x1 x2 x3 x4 x5 y0 y1 y2 y3 y4 y5 hcf hfn NBd NBa NB0 hS1 HV1
      have u0 : W9.cell? ⟨bd, 0, none⟩ = some (.bool gD) := box_cell E9.out φ4'.le_refl S9.out.s.inv.fz 0
      have u1 : W9.cell? ⟨bd, 1, none⟩ = some (.slice aD kD cD) := box_cell E9.out φ4'.le_refl S9.out.s.inv.fz 1
      have u2 : W9.cell? ⟨bd, 2, none⟩ = some (.slice aD' kD' cD') := box_cell E9.out φ4'.le_refl S9.out.s.inv.fz 2
      have z0 : W9.cell? ⟨b3, 0, none⟩ = some (.bool g1) := S9.out.s.k.cell 0
      have z1 : W9.cell? ⟨b3, 1, none⟩ = some (.slice a1 k1 c1) := S9.out.s.k.cell 1
      have z2 : W9.cell? ⟨b3, 2, none⟩ = some (.slice a2 k2 c2) := S9.out.s.k.cell 2
      obtain ⟨q, hq⟩ : ∃ q, Hid (cmpQ (abQ (s k - ttQ T k)) (dsC s T k (dsM ws m l n i)) = q) := ⟨_, Lib.hid rfl⟩
      have hqp : 0 < q ↔ dsC s T k (dsM ws m l n i) < abQ (s k - ttQ T k) := by rw [← hq.out]; exact cmpQ_gt
      by_cases hq0 : 0 < q
      ·have hst := Lib.hid (dsC_yes (hqp.1 hq0))
       clear hqp
       go_upto_region 10 with (go_at_call 44; (with_reducible refine (Compare_P (SmS.staD _ _ _ _ _ _) hM VD LR9 VO LR9 HBC hq S9).mono ?_); rintro e w6 ⟨rfl, S6⟩)
       clear u0 u1 u2 z0 z1 z2
       have u0 : w6.cell? ⟨bd, 0, none⟩ = some (.bool gD) := box_cell E9.out φ4'.le_refl S6.out.s.inv.fz 0
       have u1 : w6.cell? ⟨bd, 1, none⟩ = some (.slice aD kD cD) := box_cell E9.out φ4'.le_refl S6.out.s.inv.fz 1
       have u2 : w6.cell? ⟨bd, 2, none⟩ = some (.slice aD' kD' cD') := box_cell E9.out φ4'.le_refl S6.out.s.inv.fz 2
       have z0 : w6.cell? ⟨b3, 0, none⟩ = some (.bool g1) := S6.out.s.k.cell 0
       have z1 : w6.cell? ⟨b3, 1, none⟩ = some (.slice a1 k1 c1) := S6.out.s.k.cell 1
       have z2 : w6.cell? ⟨b3, 2, none⟩ = some (.slice a2 k2 c2) := S6.out.s.k.cell 2
       have r0 := S6.out.s.k.frz 0
       have r1 := S6.out.s.k.frz 1
       have r2 := S6.out.s.k.frz 2
       go_wp2
       go_roundw
       case rel =>
        refine ⟨k + 1, φ4', gD, aD, kD, cD, aD', kD', cD', by omega, by go_num, L9, Lib.hid (((S6.out.set 0 (.bool gD)).set 1 (.slice aD kD cD)).set 2 (.slice aD' kD' cD')), ?_⟩
        rw [hst.out]
        exact VD
       case measure => (simp [intOf] <;> omega)
      ·have hst := Lib.hid (dsC_no (fun h => hq0 (hqp.2 h)))
       clear hqp
       go_wp2_with (go_at_call 44; (with_reducible refine (Compare_P (SmS.staD _ _ _ _ _ _) hM VD LR9 VO LR9 HBC hq S9).mono ?_); rintro e w6 ⟨rfl, S6⟩)
       go_roundw
       case rel =>
        refine ⟨k + 1, φ4', g1, a1, k1, c1, a2, k2, c2, by omega, by go_num, L9, S6, ?_⟩
        rw [hst.out]
        exact VO
       case measure => (simp [intOf] <;> omega)
    ·obtain rfl : k = nt := by omega
     go_wp2
     go_roundw
     case rel =>
      refine ⟨i + 1, φ', g1, a1, k1, c1, a2, k2, c2, by omega, by go_num, hS, ?_⟩
      rw [hdM.out]
      exact hV
     case measure => (simp [intOf] <;> omega)
  ·obtain rfl : i = nm := by omega
   have z0 : wr.cell? ⟨b3, 0, none⟩ = some (.bool g1) := hS.out.s.k.cell 0
   have z1 : wr.cell? ⟨b3, 1, none⟩ = some (.slice a1 k1 c1) := hS.out.s.k.cell 1
   have z2 : wr.cell? ⟨b3, 2, none⟩ = some (.slice a2 k2 c2) := hS.out.s.k.cell 2
   obtain ⟨y0, y1, y2, y3, y4, y5⟩ := hS.out.r.facts
   go_wp2
   have hIZ := Lib.hid (((hS.out.r.inv.setCell hS.out.r.l hS.out.r.f (off := 0) (Value.bool g1)).setCell hS.out.r.l hS.out.r.f (off := 1) (Value.slice a1 k1 c1)).setCell hS.out.r.l hS.out.r.f (off := 2) (Value.slice a2 k2 c2))
   have hBZ := Lib.hid (((hS.out.r.k.set 0 (Value.bool g1)).set 1 (Value.slice a1 k1 c1)).set 2 (Value.slice a2 k2 c2))
   have e0 : _ = some (Value.bool g1) := hBZ.out.cell 0
   have e1 : _ = some (Value.slice a1 k1 c1) := hBZ.out.cell 1
   have e2 : _ = some (Value.slice a2 k2 c2) := hBZ.out.cell 2
   (try simp only [Exit.inBlock, Exit.then])
   refine bodyPost_ret (v := .agg #[(Value.bool g1), (Value.slice a1 k1 c1), (Value.slice a2 k2 c2)]) (by simp [results, Tryz.results43, go_sem, e0, e1, e2]) rfl ?_
   exact ⟨_, φ', rfl, hIZ.out, hV.out⟩
end Go.Proofs.YtmlpjffnmkndoaaGreatDoor

namespace Go.Proofs.YtmlpjffnmkndoaaGreatDoor
open Go.RowKit
set_option linter.unusedVariables false
set_option linter.unusedSimpArgs false
/-- The error of what Rake is asked. -/
noncomputable def rkF (pl rd : Int) (d : Rti) : Int := if outB pl 0 12 = true ∨ outB rd 0 200 = true then 1 else if shoF d.1 d.2 ≠ 0 then shoF d.1 d.2 else if ratX d.1 d.2 < 0 then 1 else 0
section
variable {m : List Mgn} {l : List Psn} {pl rd : Int} {d : Rti} {f : Int} {nm k p R : Nat}
theorem rakR_bad (h : ppmF m l = f) (hf : f ≠ 0) : rakR m l pl rd d = (rkd0, f) := by unfold rakR; rw [h, if_pos hf]
theorem rakR_fault (h0 : ppmF m l = 0) (h : rkF pl rd d = f) (hf : f ≠ 0) : rakR m l pl rd d = (rkd0, f) := by
 unfold rkF at h
 unfold rakR
 rw [h0, if_neg (by simp)]
 split at h
 ·next h1 => rw [if_pos h1, h]
 ·next h1 =>
  rw [if_neg h1]
  split at h
  ·next h2 => rw [if_pos h2, h]
  ·next h2 =>
   rw [if_neg h2]
   split at h
   ·next h3 => rw [if_pos h3, h]
   ·next h3 => exact absurd h.symm hf
theorem rkF_ok (h : rkF pl rd d = 0) : (∃ p : Nat, pl = (p : Int) ∧ p ≤ 12) ∧ (∃ R : Nat, rd = (R : Int) ∧ R ≤ 200) ∧ shoF d.1 d.2 = 0 ∧ 0 ≤ ratX d.1 d.2 := by
 unfold rkF at h
 split at h
 ·exact absurd h (by decide)
 ·next h1 =>
  split at h
  ·next h2 => exact absurd h h2
  ·next h2 =>
   split at h
   ·exact absurd h (by decide)
   ·next h3 =>
    rw [outB, outB, Bool.or_eq_true, Bool.or_eq_true, decide_eq_true_eq, decide_eq_true_eq, decide_eq_true_eq, decide_eq_true_eq] at h1
    exact ⟨⟨pl.toNat, by omega, by omega⟩, ⟨rd.toNat, by omega, by omega⟩, by simpa using h2, Rat.not_lt.1 h3⟩
theorem rakR_pass (h0 : ppmF m l = 0) (h : rkF pl rd d = 0) : rakR m l pl rd d = if scan (emF m l) m.length ≠ 0 then (rkd0, 19) else rakE m l (rkW (10 ^ pl.toNat) m l l.length (rkT (10 ^ pl.toNat) m l rd.toNat (ratX d.1 d.2))) (rkT (10 ^ pl.toNat) m l rd.toNat (ratX d.1 d.2)) (ratX d.1 d.2) := by
 unfold rkF at h
 unfold rakR
 rw [h0, if_neg (by simp)]
 split at h
 ·exact absurd h (by decide)
 ·next h1 =>
  rw [if_neg h1]
  split at h
  ·next h2 => exact absurd h h2
  ·next h2 =>
   rw [if_neg h2]
   split at h
   ·exact absurd h (by decide)
   ·next h3 => rw [if_neg h3]
theorem rakR_em (h0 : ppmF m l = 0) (h : rkF pl rd d = 0) (hm : m.length = nm) (hk : k < nm) (hz : ∀ i, i < k → emF m l i = 0) (hne : emF m l k ≠ 0) : rakR m l pl rd d = (rkd0, 19) := by
 subst hm
 have e := scan_stop (f := emF m l) hz hk hne
 rw [rakR_pass h0 h, e, if_pos hne]
theorem rakR_go {n : Nat} (h0 : ppmF m l = 0) (h : rkF (p : Int) (R : Int) d = 0) (hm : m.length = nm) (hn : l.length = n) (hz : ∀ i, i < nm → emF m l i = 0) {P : Nat} (hP : 10 ^ p = P) {e : Rat} (he : ratX d.1 d.2 = e) {t : Nat} (ht : rkS (fun t => decide (e < dsM (rkW P m l n t) m l n nm)) R 0 = t) : rakR m l (p : Int) (R : Int) d = rakE m l (rkW P m l n t) t e := by
 subst hm hn hP he
 rw [rakR_pass h0 h, scan_zero _ _ hz, if_neg (by simp), Int.toNat_natCast, Int.toNat_natCast]
 have : rkT (10 ^ p) m l R (ratX d.1 d.2) = t := ht
 rw [this]
theorem emF_of {T : List Rti} {n nt : Nat} (hT : (m.getD k mgn0).2 = T) (hn : l.length = n) (hnt : T.length = nt) (hw : ∀ j, j < n → 0 < wgtQ l j) {b : Bool} (hb : nobB (fun c => ∀ j, j < n → celI l k j ≠ (c : Int)) T nt = b) : emF m l k = if b then 19 else 0 := by
 subst hT hn hnt
 unfold emF
 rw [← nob_pos hw, hb]
end
/-- What Rake hands back. -/
def RkdP (r : Rkd × Int) (φ : Phi) (w : World) (e : Ending) (w' : World) : Prop :=
 ∃ a c φ', e = .returned (.tuple #[.agg #[.slice a r.1.1.length c, .int .i64 r.1.2.1, .string r.1.2.2.1.1, .string r.1.2.2.1.2, .bool r.1.2.2.2], .int .i64 r.2]) ∧ Inv w.heap.size w φ φ' w' ∧ SlV φ' a c r.1.1
/-- Two boxes of two kinds. -/
structure DbT (T1 T2 : TypeId) (w0 : World) (φ0 φ : Phi) (b1 : Nat) (cs1 : Array Value) (b2 : Nat) (cs2 : Array Value) (W : World) : Prop where
 r : RsSt w0 φ0 φ b1 cs1 T1 W
 d : RsSt w0 φ0 φ b2 cs2 T2 W
 n : b2 ≠ b1
section
variable {T1 T2 : TypeId} {w0 W w' : World} {φ0 φ φ' : Phi} {b1 b2 : Nat} {cs1 cs2 : Array Value}
theorem DbT.call (h : DbT T1 T2 w0 φ0 φ b1 cs1 b2 cs2 W) (hi : Inv W.heap.size W φ φ' w') : DbT T1 T2 w0 φ0 φ' b1 cs1 b2 cs2 w' := ⟨h.r.call hi, h.d.call hi, h.n⟩
theorem DbT.callB (h : DbT T1 T2 w0 φ0 φ b1 cs1 b2 cs2 W) (hb : Below W.heap.size W w') : DbT T1 T2 w0 φ0 φ b1 cs1 b2 cs2 w' := ⟨h.r.callB hb, h.d.callB hb, h.n⟩
theorem DbT.sta (T1 T2 : TypeId) (w0 : World) (φ0 : Phi) (b1 : Nat) (cs1 : Array Value) (b2 : Nat) (cs2 : Array Value) : Sta (fun φ W => DbT T1 T2 w0 φ0 φ b1 cs1 b2 cs2 W) := ⟨fun h => h.r.inv.fz, fun h hi => h.call hi⟩
theorem DbT.setD (h : DbT T1 T2 w0 φ0 φ b1 cs1 b2 cs2 W) (j : Nat) (u : Value) : DbT T1 T2 w0 φ0 φ b1 cs1 b2 (cs2.setIfInBounds j u) (W.setCell ⟨b2, j, none⟩ u) := ⟨h.r.setNe h.d.l h.d.f h.n j u, h.d.set j u, h.n⟩
theorem DbT.mk2 (h : RsSt w0 φ0 φ b1 cs1 T1 W) (cs2 : Array Value) (T2 : TypeId) : DbT T1 T2 w0 φ0 φ b1 cs1 W.heap.size cs2 (W.alloc (.cells cs2 T2)) :=
 ⟨h.callB ((Below.refl _ _).alloc (Nat.le_refl _) _), RsSt.start h.inv _ _, by have := h.k.lt; omega⟩
theorem DbT.frz (h : DbT T1 T2 w0 φ0 φ b1 cs1 b2 cs2 W) : ∃ φ', φ.le φ' ∧ RsSt w0 φ0 φ' b1 cs1 T1 W ∧ φ' b2 = some (.cells cs2 T2) := by
 obtain ⟨φ1, l1, i1, e1, f1⟩ := h.d.inv.frzAt h.d.k h.d.l
 exact ⟨φ1, l1, ⟨i1, h.r.k, by rw [f1 b1 (Ne.symm h.n)]; exact h.r.f, h.r.l⟩, e1⟩
end
theorem SlV.fxLe {φ : Phi} {N D N' D' : Nat} {a : Option Addr} {cap : Nat} {xs : List Rat} (h : SlV φ a cap (xs.map (Fx.mk (N := N) (D := D)))) (h1 : N ≤ N') (h2 : D ≤ D') : SlV φ a cap (xs.map (Fx.mk (N := N') (D := D'))) := by
 refine ⟨by have := h.capn; rw [List.length_map] at this ⊢; exact this, h.capm, h.nil, fun hne => ?_⟩
 obtain ⟨b, off, ha, hc⟩ := h.at_ (by intro e; exact hne (by rw [List.map_eq_nil_iff] at e ⊢; exact e))
 refine ⟨b, off, ha, fun k hk => ?_⟩
 have hk' : k < xs.length := by rw [List.length_map] at hk; exact hk
 obtain ⟨cs, hr, hj⟩ := hc k (by rw [List.length_map]; exact hk')
 rw [List.getElem_map] at hr
 obtain ⟨g, a1, k1, c1, a2, k2, c2, rfl, hx⟩ := hr
 refine ⟨_, ?_, hj⟩
 rw [List.getElem_map]
 exact ⟨g, a1, k1, c1, a2, k2, c2, rfl, hx.le h1 h2⟩
set_option maxRecDepth 100000 in
set_option maxHeartbeats 2000000 in
theorem rakingFault_any {M : Nat} (hD : Hid (DivOk M)) (hM2 : p10 2000 ≤ M) {pl rd : Int} {s t : ByteArray} (hs : s.size ≤ 9223372036854775807) (ht : t.size ≤ 9223372036854775807) {f : Int} (hf : Hid (rkF pl rd (s, t) = f)) {w : World} {φ : Phi} (hφ : Fz φ w) :
  Calls Tryz.prog 41 #[.agg #[.int .i64 pl, .int .i64 rd, .string s, .string t]] w (fun e w' => e = .returned (.int .i64 f) ∧ Below w.heap.size w w') := by
 have HM2 := Lib.hid hM2
 obtain ⟨φb, lb, ib, eb⟩ := (Inv.start hφ).frz (.cells #[.int .i64 pl, .int .i64 rd, .string s, .string t] 42)
 have S1 := Lib.hid ib
 have EB := Lib.hid eb
 have hq := hf.out
 unfold rkF at hq
 dsimp only at hq
 obtain ⟨g, hg⟩ : ∃ g, Hid (shoF s t = g) := ⟨_, Lib.hid rfl⟩
 obtain ⟨o1, ho1⟩ : ∃ g, Hid (outB pl 0 12 = g) := ⟨_, Lib.hid rfl⟩
 obtain ⟨o2, ho2⟩ : ∃ g, Hid (outB rd 0 200 = g) := ⟨_, Lib.hid rfl⟩
 obtain ⟨r, hr⟩ : ∃ r, Hid (ratX s t = r) := ⟨_, Lib.hid rfl⟩
 rw [hg.out, ho1.out, ho2.out, hr.out] at hq
 have hsz : Hid (s.size ≤ 9223372036854775807 ∧ t.size ≤ 9223372036854775807) := Lib.hid ⟨hs, ht⟩
 clear hM2 hφ lb ib eb hf
 go_enter Tryz.func41, Tryz.ntmps41
 go_upto_region 1 with fail
 generalize w.alloc (.cells #[.int .i64 pl, .int .i64 rd, .string s, .string t] 42) = wx at *
 obtain ⟨bx, hbx0⟩ : ∃ b, w.heap.size = b := ⟨_, rfl⟩
 rw [hbx0] at EB ⊢
 have HBX := Lib.hid hbx0
 clear hbx0
 have x0 : wx.cell? ⟨bx, 0, none⟩ = some (.int .i64 pl) := box_cell EB.out φb.le_refl S1.out.fz 0
 have x1 : wx.cell? ⟨bx, 1, none⟩ = some (.int .i64 rd) := box_cell EB.out φb.le_refl S1.out.fz 1
 have hbx := Lib.hid (fun (W : World) (hf : Fz φb W) => (⟨box_cell EB.out φb.le_refl hf 2, box_cell EB.out φb.le_refl hf 3⟩ : W.cell? ⟨bx, 2, none⟩ = some (.string s) ∧ W.cell? ⟨bx, 3, none⟩ = some (.string t)))
 obtain ⟨x2, x3⟩ := hbx.out wx S1.out.fz
 cases o1
 case true =>
  have HQ : Hid ((1 : Int) = f) := Lib.hid (by rw [if_pos (Or.inl rfl)] at hq; exact hq)
  clear hq
  go_wp2_with (first
   | (go_at_call 29; (with_reducible refine (outW _ _ _ _ ho2).mono ?_); rintro e w' ⟨rfl, rfl⟩)
   | (go_at_call 29; (with_reducible refine (outW _ _ _ _ ho1).mono ?_); rintro e w' ⟨rfl, rfl⟩)
   | (go_at_call 87; (with_reducible refine (Short_any hD HM2.out hs ht hg S1.out.fz).mono ?_); rintro e w2 ⟨rfl, hb2⟩; have S2 := Lib.hid (S1.out.callB hb2); obtain ⟨y0, y1⟩ := hbx.out w2 S2.out.fz; clear hb2)
   | (go_at_call 76; (with_reducible refine (Sign_P (Inv.sta _ _) V3 (Lib.hid φ3.le_refl) hq1 S3).mono ?_); rintro e w4 ⟨rfl, S4⟩)
   | (go_at_call 42; (with_reducible refine (FracOf_P (Inv.sta _ _) hD HM2.out hsz hrf hr hbd S2).mono ?_); rintro e w3 ⟨g3, a3, k3, c3, a4, k4, c4, φ3, rfl, S3, L3, V3⟩)
   | fail)
  go_ret
  exact ⟨ret_int HQ.out, HBX.out ▸ S1.out.bel⟩
 case false =>
  cases o2
  case true =>
   have HQ : Hid ((1 : Int) = f) := Lib.hid (by rw [if_pos (Or.inr rfl)] at hq; exact hq)
   clear hq
   go_wp2_with (first
    | (go_at_call 29; (with_reducible refine (outW _ _ _ _ ho2).mono ?_); rintro e w' ⟨rfl, rfl⟩)
    | (go_at_call 29; (with_reducible refine (outW _ _ _ _ ho1).mono ?_); rintro e w' ⟨rfl, rfl⟩)
    | (go_at_call 87; (with_reducible refine (Short_any hD HM2.out hs ht hg S1.out.fz).mono ?_); rintro e w2 ⟨rfl, hb2⟩; have S2 := Lib.hid (S1.out.callB hb2); obtain ⟨y0, y1⟩ := hbx.out w2 S2.out.fz; clear hb2)
    | (go_at_call 76; (with_reducible refine (Sign_P (Inv.sta _ _) V3 (Lib.hid φ3.le_refl) hq1 S3).mono ?_); rintro e w4 ⟨rfl, S4⟩)
    | (go_at_call 42; (with_reducible refine (FracOf_P (Inv.sta _ _) hD HM2.out hsz hrf hr hbd S2).mono ?_); rintro e w3 ⟨g3, a3, k3, c3, a4, k4, c4, φ3, rfl, S3, L3, V3⟩)
    | fail)
   go_ret
   exact ⟨ret_int HQ.out, HBX.out ▸ S1.out.bel⟩
  case false =>
   rw [if_neg (by simp)] at hq
   by_cases hg0 : g = 0
   case neg =>
    have h0i : (g == 0) = false := by simp [hg0]
    have h0j : (g != 0) = true := by simp [hg0]
    have HQ : Hid (g = f) := Lib.hid (by rw [if_pos hg0] at hq; exact hq)
    clear hq hg0
    go_wp2_with (first
     | (go_at_call 29; (with_reducible refine (outW _ _ _ _ ho2).mono ?_); rintro e w' ⟨rfl, rfl⟩)
     | (go_at_call 29; (with_reducible refine (outW _ _ _ _ ho1).mono ?_); rintro e w' ⟨rfl, rfl⟩)
     | (go_at_call 87; (with_reducible refine (Short_any hD HM2.out hs ht hg S1.out.fz).mono ?_); rintro e w2 ⟨rfl, hb2⟩; have S2 := Lib.hid (S1.out.callB hb2); obtain ⟨y0, y1⟩ := hbx.out w2 S2.out.fz; clear hb2)
     | (go_at_call 76; (with_reducible refine (Sign_P (Inv.sta _ _) V3 (Lib.hid φ3.le_refl) hq1 S3).mono ?_); rintro e w4 ⟨rfl, S4⟩)
     | (go_at_call 42; (with_reducible refine (FracOf_P (Inv.sta _ _) hD HM2.out hsz hrf hr hbd S2).mono ?_); rintro e w3 ⟨g3, a3, k3, c3, a4, k4, c4, φ3, rfl, S3, L3, V3⟩)
     | fail)
    go_ret
    exact ⟨ret_int HQ.out, HBX.out ▸ S2.out.bel⟩
   case pos =>
    subst hg0
    rw [if_neg (by simp)] at hq
    have hrf := Lib.hid (shoF_ok hg.out).1
    have hbd := Lib.hid (sho_lt hg.out)
    obtain ⟨q1, hq1⟩ : ∃ q, Hid (sgI r = q) := ⟨_, Lib.hid rfl⟩
    have e1 := sgI_lt (x := r)
    rw [hq1.out] at e1
    by_cases hr0 : r < 0
    ·have hq0 : q1 < 0 := e1.2 hr0
     have HQ : Hid ((1 : Int) = f) := Lib.hid (by rw [if_pos hr0] at hq; exact hq)
     clear hq e1 hr0
     go_wp2_with (first
      | (go_at_call 29; (with_reducible refine (outW _ _ _ _ ho2).mono ?_); rintro e w' ⟨rfl, rfl⟩)
      | (go_at_call 29; (with_reducible refine (outW _ _ _ _ ho1).mono ?_); rintro e w' ⟨rfl, rfl⟩)
      | (go_at_call 87; (with_reducible refine (Short_any hD HM2.out hs ht hg S1.out.fz).mono ?_); rintro e w2 ⟨rfl, hb2⟩; have S2 := Lib.hid (S1.out.callB hb2); obtain ⟨y0, y1⟩ := hbx.out w2 S2.out.fz; clear hb2)
      | (go_at_call 76; (with_reducible refine (Sign_P (Inv.sta _ _) V3 (Lib.hid φ3.le_refl) hq1 S3).mono ?_); rintro e w4 ⟨rfl, S4⟩)
      | (go_at_call 42; (with_reducible refine (FracOf_P (Inv.sta _ _) hD HM2.out hsz hrf hr hbd S2).mono ?_); rintro e w3 ⟨g3, a3, k3, c3, a4, k4, c4, φ3, rfl, S3, L3, V3⟩)
      | fail)
     go_ret
     exact ⟨ret_int HQ.out, HBX.out ▸ S4.out.bel⟩
    ·have hq0 : ¬ q1 < 0 := fun h => hr0 (e1.1 h)
     have HQ : Hid ((0 : Int) = f) := Lib.hid (by rw [if_neg hr0] at hq; exact hq)
     clear hq e1 hr0
     go_wp2_with (first
      | (go_at_call 29; (with_reducible refine (outW _ _ _ _ ho2).mono ?_); rintro e w' ⟨rfl, rfl⟩)
      | (go_at_call 29; (with_reducible refine (outW _ _ _ _ ho1).mono ?_); rintro e w' ⟨rfl, rfl⟩)
      | (go_at_call 87; (with_reducible refine (Short_any hD HM2.out hs ht hg S1.out.fz).mono ?_); rintro e w2 ⟨rfl, hb2⟩; have S2 := Lib.hid (S1.out.callB hb2); obtain ⟨y0, y1⟩ := hbx.out w2 S2.out.fz; clear hb2)
      | (go_at_call 76; (with_reducible refine (Sign_P (Inv.sta _ _) V3 (Lib.hid φ3.le_refl) hq1 S3).mono ?_); rintro e w4 ⟨rfl, S4⟩)
      | (go_at_call 42; (with_reducible refine (FracOf_P (Inv.sta _ _) hD HM2.out hsz hrf hr hbd S2).mono ?_); rintro e w3 ⟨g3, a3, k3, c3, a4, k4, c4, φ3, rfl, S3, L3, V3⟩)
      | fail)
     go_ret
     exact ⟨ret_int HQ.out, HBX.out ▸ S4.out.bel⟩
end Go.Proofs.YtmlpjffnmkndoaaGreatDoor

namespace Go.Proofs.YtmlpjffnmkndoaaGreatDoor
open Go.RowKit
set_option linter.unusedVariables false
set_option linter.unusedSimpArgs false
section
variable {m : List Mgn} {l : List Psn} {W : List Rat} {t n nm : Nat} {e : Rat} {L0 : List Rti} {F0 F1 : Int} {S T : ByteArray} {b : Bool}
theorem rakE_1 (h : shtR W = (L0, F0)) (hF : F0 ≠ 0) : rakE m l W t e = (rkd0, F0) := by unfold rakE; rw [h, if_pos hF]
theorem rakE_2 (hm : m.length = nm) (hn : l.length = n) (h : shtR W = (L0, 0)) (h2 : ratR (dsM W m l n nm) = (S, T, F1)) (hF : F1 ≠ 0) : rakE m l W t e = (rkd0, F1) := by
 subst hm hn
 have h2' : ratR (dsQ m l W) = (S, T, F1) := h2
 unfold rakE; rw [h, if_neg (by simp), h2', if_pos hF]
theorem rakE_3 (hm : m.length = nm) (hn : l.length = n) (h : shtR W = (L0, 0)) (h2 : ratR (dsM W m l n nm) = (S, T, 0)) (hb : decide (dsM W m l n nm ≤ e) = b) : rakE m l W t e = ((L0, (t : Int), (S, T), b), 0) := by
 subst hm hn
 have h2' : ratR (dsQ m l W) = (S, T, 0) := h2
 have hb' : decide (dsQ m l W ≤ e) = b := hb
 unfold rakE; rw [h, if_neg (by simp), h2', if_neg (by simp), hb']
end
theorem RsSt.rkd {w0 W : World} {φ0 φ : Phi} {b : Nat} {T : TypeId} (h : RsSt w0 φ0 φ b #[.slice none 0 0, .int .i64 0, .string ⟨#[]⟩, .string ⟨#[]⟩, .bool false] T W) :
  W.cell? ⟨b, 0, none⟩ = some (.slice none 0 0) ∧ W.cell? ⟨b, 1, none⟩ = some (.int .i64 0) ∧ W.cell? ⟨b, 2, none⟩ = some (.string ⟨#[]⟩) ∧ W.cell? ⟨b, 3, none⟩ = some (.string ⟨#[]⟩) ∧ W.cell? ⟨b, 4, none⟩ = some (.bool false) ∧ W.frozen? ⟨b, 0, none⟩ = false ∧ W.frozen? ⟨b, 1, none⟩ = false ∧ W.frozen? ⟨b, 2, none⟩ = false ∧ W.frozen? ⟨b, 3, none⟩ = false ∧ W.frozen? ⟨b, 4, none⟩ = false :=
 ⟨h.k.cell 0, h.k.cell 1, h.k.cell 2, h.k.cell 3, h.k.cell 4, h.k.frz 0, h.k.frz 1, h.k.frz 2, h.k.frz 3, h.k.frz 4⟩
theorem RsSt.sta (w0 : World) (φ0 : Phi) (b : Nat) (cs : Array Value) (T : TypeId) : Sta (fun φ W => RsSt w0 φ0 φ b cs T W) := ⟨fun h => h.inv.fz, fun h hi => h.call hi⟩
set_option maxRecDepth 100000 in
set_option maxHeartbeats 8000000 in
theorem Rake_any {M : Nat} (hD : Hid (DivOk M)) (hM : LenB M) (hM2 : p10 2000 ≤ M) {N : Nat} (hN : Hid (N = 1000000000000)) {mm : List Mgn} {nm cm : Nat} {am : Option Addr} {n : Nat} (hB : Hid (n ≤ 3000 → RkB M N n)) {a : Option Addr} {cap : Nat} {l : List Psn} {w : World} {φ : Phi} (hφ : Fz φ w) (hp : PowP φ) (sm : SlV φ am cm mm) (hnm : Hid (mm.length = nm)) (hgm : Hid (∀ x ∈ mm, MgnG x)) (sl : SlV φ a cap l) (hn : Hid (l.length = n)) (hsz : Hid (∀ p ∈ l, PsnG p)) {pl rd : Int} {s t0 : ByteArray} (hs : s.size ≤ 9223372036854775807) (ht : t0.size ≤ 9223372036854775807) {r : Rkd × Int} (hR : Hid (rakR mm l pl rd (s, t0) = r)) :
  Calls Tryz.prog 13 #[.slice am nm cm, .slice a n cap, .agg #[.int .i64 pl, .int .i64 rd, .string s, .string t0]] w (RkdP r φ w) := by
 have HM2 := Lib.hid hM2
 have HP := Lib.hid hp
 have HSM := Lib.hid sm
 have HSL := Lib.hid sl
 have hnml : nm ≤ 9223372036854775807 := by have := sm.capn; have := sm.capm; rw [hnm.out] at *; unfold maxLen at *; omega
 obtain ⟨φb, lb, ib, eb⟩ := (Inv.start hφ).frz (.cells #[.int .i64 pl, .int .i64 rd, .string s, .string t0] 42)
 have hRS := RsSt.start ib #[.slice none 0 0, .int .i64 0, .string ⟨#[]⟩, .string ⟨#[]⟩, .bool false] 44
 rw [alloc_sz] at hRS
 have HRS := Lib.hid hRS
 have EB := Lib.hid eb
 have LB := Lib.hid lb
 obtain ⟨f, hf⟩ : ∃ x, Hid (ppmF mm l = x) := ⟨_, Lib.hid rfl⟩
 have HCP := Lib.hid (fun W (ψ : Phi) (hf9 : Fz ψ W) (hl : φ.le ψ) => CheckPeople_any hD hM HM2.out hf9 (HSM.out.mono hl) hnm hgm (HSL.out.mono hl) hn hsz hf)
 clear hM2 hφ hp sm sl ib eb lb hRS
 go_enter Tryz.func13, Tryz.ntmps13
 go_upto_region 1 with fail
 generalize (w.alloc (.cells #[.int .i64 pl, .int .i64 rd, .string s, .string t0] 42)).alloc (.cells #[.slice none 0 0, .int .i64 0, .string ⟨#[]⟩, .string ⟨#[]⟩, .bool false] 44) = wx at *
 obtain ⟨br, hbr⟩ : ∃ b, w.heap.size = b := ⟨_, rfl⟩
 rw [hbr] at EB HRS ⊢
 have HBR := Lib.hid hbr
 obtain ⟨b6, hb6⟩ : ∃ b, br + 1 = b := ⟨_, rfl⟩
 rw [hb6] at HRS ⊢
 clear hbr hb6
 by_cases hf0 : f = 0
 case neg =>
  have HQ := Lib.hid (hR.out.symm.trans (rakR_bad hf.out hf0))
  have h0i : (f == 0) = false := by simp [hf0]
  have h0j : (f != 0) = true := by simp [hf0]
  clear hf0
  go_wp2_with (go_at_call 22; (with_reducible refine (HCP.out _ _ HRS.out.inv.fz LB.out).mono ?_); rintro en w1 ⟨rfl, hb1⟩; have H1 := Lib.hid (HRS.out.callB hb1); obtain ⟨z0, z1, z2, z3, z4, z5, z6, z7, z8, z9⟩ := H1.out.rkd; clear hb1)
  have hZ := Lib.hid (((((H1.out.set 0 (Value.slice none 0 0)).set 1 (Value.int .i64 0)).set 2 (Value.string ⟨#[]⟩)).set 3 (Value.string ⟨#[]⟩)).set 4 (Value.bool false))
  have e0 : _ = some (Value.slice none 0 0) := hZ.out.k.cell 0
  have e1 : _ = some (Value.int .i64 0) := hZ.out.k.cell 1
  have e2 : _ = some (Value.string ⟨#[]⟩) := hZ.out.k.cell 2
  have e3 : _ = some (Value.string ⟨#[]⟩) := hZ.out.k.cell 3
  have e4 : _ = some (Value.bool false) := hZ.out.k.cell 4
  (try simp only [Exit.inBlock, Exit.then])
  refine bodyPost_ret (v := .tuple #[.agg #[(Value.slice none 0 0), (Value.int .i64 0), (Value.string ⟨#[]⟩), (Value.string ⟨#[]⟩), (Value.bool false)], .int .i64 f]) (by simp [results, Tryz.results13, go_sem, e0, e1, e2, e3, e4]) rfl ?_
  obtain rfl := HQ.out
  exact ⟨none, 0, φb, rfl, hZ.out.inv, SlV.empty φb⟩
 case pos =>
 subst hf0
 obtain ⟨kf, hkf⟩ : ∃ x, Hid (rkF pl rd (s, t0) = x) := ⟨_, Lib.hid rfl⟩
 go_upto_region 4 with (go_at_call 22; (with_reducible refine (HCP.out _ _ HRS.out.inv.fz LB.out).mono ?_); rintro en w1 ⟨rfl, hb1⟩; have H1 := Lib.hid (HRS.out.callB hb1); clear hb1)
 have x0 : w1.cell? ⟨br, 0, none⟩ = some (.int .i64 pl) := box_cell EB.out φb.le_refl H1.out.inv.fz 0
 have x1 : w1.cell? ⟨br, 1, none⟩ = some (.int .i64 rd) := box_cell EB.out φb.le_refl H1.out.inv.fz 1
 have x2 : w1.cell? ⟨br, 2, none⟩ = some (.string s) := box_cell EB.out φb.le_refl H1.out.inv.fz 2
 have x3 : w1.cell? ⟨br, 3, none⟩ = some (.string t0) := box_cell EB.out φb.le_refl H1.out.inv.fz 3
 by_cases hkf0 : kf = 0
 case neg =>
  have HQ := Lib.hid (hR.out.symm.trans (rakR_fault hf.out hkf.out hkf0))
  have h0i : (kf == 0) = false := by simp [hkf0]
  have h0j : (kf != 0) = true := by simp [hkf0]
  clear hkf0
  go_wp2_with (go_at_call 41; (with_reducible refine (rakingFault_any hD HM2.out hs ht hkf H1.out.inv.fz).mono ?_); rintro en w2 ⟨rfl, hb2⟩; have H2 := Lib.hid (H1.out.callB hb2); obtain ⟨z0, z1, z2, z3, z4, z5, z6, z7, z8, z9⟩ := H2.out.rkd; clear hb2)
  have hZ := Lib.hid (((((H2.out.set 0 (Value.slice none 0 0)).set 1 (Value.int .i64 0)).set 2 (Value.string ⟨#[]⟩)).set 3 (Value.string ⟨#[]⟩)).set 4 (Value.bool false))
  have e0 : _ = some (Value.slice none 0 0) := hZ.out.k.cell 0
  have e1 : _ = some (Value.int .i64 0) := hZ.out.k.cell 1
  have e2 : _ = some (Value.string ⟨#[]⟩) := hZ.out.k.cell 2
  have e3 : _ = some (Value.string ⟨#[]⟩) := hZ.out.k.cell 3
  have e4 : _ = some (Value.bool false) := hZ.out.k.cell 4
  (try simp only [Exit.inBlock, Exit.then])
  refine bodyPost_ret (v := .tuple #[.agg #[(Value.slice none 0 0), (Value.int .i64 0), (Value.string ⟨#[]⟩), (Value.string ⟨#[]⟩), (Value.bool false)], .int .i64 kf]) (by simp [results, Tryz.results13, go_sem, e0, e1, e2, e3, e4]) rfl ?_
  obtain rfl := HQ.out
  exact ⟨none, 0, φb, rfl, hZ.out.inv, SlV.empty φb⟩
 case pos =>
 subst hkf0
 go_upto_region 7 with (go_at_call 41; (with_reducible refine (rakingFault_any hD HM2.out hs ht hkf H1.out.inv.fz).mono ?_); rintro en w2 ⟨rfl, hb2⟩; have H2 := Lib.hid (H1.out.callB hb2); clear hb2)
 clear x0 x1 x2 x3 H1 HRS HCP
 obtain ⟨⟨p, rfl, hp12⟩, ⟨R, rfl, hR200⟩, hsho, he0⟩ := rkF_ok hkf.out
 have hsh0 := Lib.hid hsho
 obtain ⟨q1, q2, q3, q4, q5⟩ := ppmF_cells hnm.out hn.out hf.out
 have hnm8 := q1
 have hn3 := q2
 have hok := Lib.hid q3
 have hnt40 := Lib.hid q4
 have hcel := Lib.hid q5
 have htot := Lib.hid (ppmF_tot hnm.out hf.out)
 have hpos := Lib.hid (ppmF_pos hn.out hf.out)
 have hT : Hid (∀ i, i < nm → ∀ r ∈ (mm.getD i mgn0).2, RtiG r ∧ shoF r.1 r.2 = 0) := Lib.hid (fun i hi r hr => by
  have hmem : mm.getD i mgn0 ∈ mm := by rw [getD_elem0 _ _ _ (by rw [hnm.out]; exact hi)]; exact List.getElem_mem _
  exact ⟨(hgm.out _ hmem).2 r hr, (htot.out i hi r hr).1⟩)
 have hBB := Lib.hid (hB.out hn3)
 have hN1 : 1 ≤ N := by rw [hN.out]; decide
 obtain ⟨P, hP⟩ : ∃ P, Hid (10 ^ p = P) := ⟨_, Lib.hid rfl⟩
 have hPN : P ≤ N := by
  rw [← hP.out, hN.out]
  exact Nat.le_trans (Nat.pow_le_pow_right (by decide) hp12) (by decide)
 obtain ⟨e, he⟩ : ∃ e, Hid (ratX s t0 = e) := ⟨_, Lib.hid rfl⟩
 have hTB : Hid (∀ i, i < nm → ∀ c, 0 ≤ ttQ (mm.getD i mgn0).2 c ∧ ttQ (mm.getD i mgn0).2 c ≤ ((N : Int) : Rat)) := Lib.hid (fun i hi c => by rw [hN.out]; exact ttQ_bd (htot.out i hi) c)
 have hWnn : Hid (∀ t j, j < n → 0 ≤ (rkW P mm l n t).getD j 0) := Lib.hid (rkW_nn (fun i hi => htot.out i (by rw [← hnm.out]; exact hi)) (fun i hi j hj => by
  obtain ⟨_, c, _, hc⟩ := hcel.out i (by rw [← hnm.out]; exact hi) j hj
  exact ⟨c, hc⟩) hpos.out)
 have hPnn : Hid (∀ t k, k ≤ nm → ∀ j, j < n → 0 ≤ (rkP P mm l n (rkW P mm l n t) k).getD j 0) := Lib.hid (fun t k hk => rk_nn (fun i hi => htot.out i (by rw [← hnm.out]; exact hi)) (fun i hi j hj => by
  obtain ⟨_, c, _, hc⟩ := hcel.out i (by rw [← hnm.out]; exact hi) j hj
  exact ⟨c, hc⟩) (hWnn.out t) k (by rw [hnm.out]; exact hk))
 have HE := Lib.hid (fun (k : Nat) (hk : k < nm) (nt : Nat) (hnt9 : Hid ((mm.getD k mgn0).2.length = nt)) (b : Bool) (hb : Hid (nobB (fun c => ∀ j, j < n → celI l k j ≠ (c : Int)) (mm.getD k mgn0).2 nt = b)) (ψ : Phi) (W : World) (hf9 : Fz ψ W) (hl : φ.le ψ) => empty_any hD HM2.out hf9 (HSM.out.mono hl) hnm hk hnt9 (Lib.hid (hT.out k hk)) (HSL.out.mono hl) hn hn3 (by rw [← hnt9.out]; exact hnt40.out k hk) (by omega) (Lib.hid (fun j hj => by rw [← hnt9.out]; exact hcel.out k hk j hj)) hb)
 have HW : Hid (∀ (ψ : Phi) (W : World), Fz ψ W → φ.le ψ → Calls Tryz.prog 33 #[.slice a n cap] W (SlPost1 ((wsL l n).map (Fx.mk (N := N) (D := N))) ψ W)) := Lib.hid (by
  have e := hN.out
  subst e
  intro ψ W hf hl
  have := weightsOf_any hD HM2.out hf (HSL.out.mono hl) hn hn3 hsz hok
  rwa [fxw_L rfl hn.out])
 have hwl : Hid (((wsL l n).map (Fx.mk (N := N) (D := N))).length = n) := Lib.hid (by rw [List.length_map, wsL_len])
 have HDi := Lib.hid (fun (ws : List Rat) (hws : ws.length = n) (aw : Option Addr) (cw : Nat) (ψ : Phi) (W : World) (hf9 : Fz ψ W) (hl : φ.le ψ) (sw : SlV ψ aw cw (ws.map (Fx.mk (N := N * N) (D := N)))) => distance_any hD hM HM2.out hN hN1 hBB hf9 (HSM.out.mono hl) hnm hnm8 hnt40 hT (HSL.out.mono hl) hn sw (Lib.hid hws) hn3 hcel)
 have HF := Lib.hid (fun (k : Nat) (hk : k < nm) (nt : Nat) (hnt9 : Hid ((mm.getD k mgn0).2.length = nt)) (ws : List Rat) (hws : ws.length = n) (hnn : ∀ j, j < n → 0 ≤ ws.getD j 0) (aw : Option Addr) (cw : Nat) (ψ : Phi) (W : World) (hf9 : Fz ψ W) (hl : φ.le ψ) (sw : SlV ψ aw cw (ws.map (Fx.mk (N := N * N) (D := N)))) (hbr : ψ br = some (.cells #[.int .i64 (p : Int), .int .i64 (R : Int), .string s, .string t0] 42)) =>
  fitted_rake (ch := rndQ P) (N2 := N * N) (D2 := N) hD hM HM2.out hN hN1 (Lib.hid hBB.out.f) (Lib.hid (fun _ => ⟨Nat.le_refl _, Nat.le_refl _⟩)) hf9 (HSM.out.mono hl) hnm hk hnt9 (Lib.hid (hT.out k hk)) (HSL.out.mono hl) hn sw (Lib.hid hws) hn3 (by rw [← hnt9.out]; exact hnt40.out k hk) (by omega) (Lib.hid (fun j hj => by rw [← hnt9.out]; exact hcel.out k hk j hj)) (CH := fun x => 0 ≤ x ∧ x ≤ ((N : Int) : Rat)) (Lib.hid (fun j hj c hcj h0 => fit_bd hnn (hTB.out k hk c) hj hcj h0)) (Lib.hid (fun P0 ψ1 ψ' W' v x hP0 hCHx hl' hS hV hl2 => rakecl_P hP0 hD hM hBB hN1 (by omega) hP hPN hCHx (Lib.hid (hl'.out _ _ hbr)) hS hV hl2)))
 have hNM : N * N ≤ M := hBB.out.h1
 have hDM : N ≤ M := hBB.out.h2
 have hNN : N ≤ N * N := Nat.le_mul_of_pos_right _ hN1
 obtain ⟨ND, hND⟩ : ∃ x, n * (N * N) * N ^ n * N + N * N ^ n = x := ⟨_, rfl⟩
 obtain ⟨DD, hDD⟩ : ∃ x, N ^ n * N = x := ⟨_, rfl⟩
 have HBE : Hid (ND * N + N * DD ≤ M ∧ DD * N ≤ M) := Lib.hid (by rw [← hND, ← hDD]; exact ⟨hBB.out.g1, hBB.out.g2⟩)
 have hNDM : ND ≤ M := by rw [← hND]; exact hBB.out.d1
 have hDDM : DD ≤ M := by rw [← hDD]; exact hBB.out.d2
 rw [hND, hDD] at HDi
 have hrf := Lib.hid (shoF_ok hsh0.out).1
 have hsz2 : Hid (s.size ≤ 9223372036854775807 ∧ t0.size ≤ 9223372036854775807) := Lib.hid ⟨hs, ht⟩
 have hbd : Hid (dV (bodyB s).data.toList ≤ N ∧ dV t0.data.toList ≤ N) := Lib.hid (by rw [hN.out]; exact sho_lt hsh0.out)
 clear q1 q2 q3 q4 q5 hB hND hDD hsho he0 htot hok
 go_wp2
 go_loopw [34] (fun iv wr => ∃ (k : Nat) (φ' : Phi), k ≤ nm ∧ iv = .int .i64 (k : Int) ∧ Hid (∀ i, i < k → emF mm l i = 0) ∧ Hid (φb.le φ') ∧ Hid (RsSt w φ φ' b6 #[.slice none 0 0, .int .i64 0, .string ⟨#[]⟩, .string ⟨#[]⟩, .bool false] 44 wr)) (fun iv _ => nm - (intOf iv).toNat)
 case atStart => exact ⟨0, φb, Nat.zero_le _, rfl, none_yet _, Lib.hid φb.le_refl, H2⟩
 case round =>
  clear H2
  obtain ⟨k, φ', hk, rfl, hem, hle, hS⟩ := hrel
  by_cases hlt : k < nm
  ·have hlti : (k : Int) < (nm : Int) := by omega
   obtain ⟨nt, hnt9⟩ : ∃ x, Hid ((mm.getD k mgn0).2.length = x) := ⟨_, Lib.hid rfl⟩
   obtain ⟨b, hb⟩ : ∃ b, Hid (nobB (fun c => ∀ j, j < n → celI l k j ≠ (c : Int)) (mm.getD k mgn0).2 nt = b) := ⟨_, Lib.hid rfl⟩
   have hee := Lib.hid (emF_of (m := mm) rfl hn.out hnt9.out hpos.out hb.out)
   have HEk := Lib.hid (HE.out k hlt nt hnt9 b hb)
   cases b
   ·have hem2 := Lib.hid (next_ok (f := emF mm l) hem.out (by rw [hee.out]; rfl))
    go_wp2_with (go_at_call 30; (with_reducible refine (HEk.out _ _ hS.out.inv.fz hS.out.inv.le).mono ?_); rintro en w3 ⟨rfl, hb3⟩; have H3 := Lib.hid (hS.out.callB hb3); clear hb3)
    go_roundw
    case rel => exact ⟨k + 1, φ', by omega, by go_num, hem2.out, hle, H3⟩
    case measure => (simp [intOf] <;> omega)
   ·have HQ := Lib.hid (hR.out.symm.trans (rakR_em hf.out hkf.out hnm.out hlt hem.out (by rw [hee.out]; decide)))
    go_wp2_with (go_at_call 30; (with_reducible refine (HEk.out _ _ hS.out.inv.fz hS.out.inv.le).mono ?_); rintro en w3 ⟨rfl, hb3⟩; have H3 := Lib.hid (hS.out.callB hb3); obtain ⟨z0, z1, z2, z3, z4, z5, z6, z7, z8, z9⟩ := H3.out.rkd; clear hb3)
    have hZ := Lib.hid (((((H3.out.set 0 (Value.slice none 0 0)).set 1 (Value.int .i64 0)).set 2 (Value.string ⟨#[]⟩)).set 3 (Value.string ⟨#[]⟩)).set 4 (Value.bool false))
    have e0 : _ = some (Value.slice none 0 0) := hZ.out.k.cell 0
    have e1 : _ = some (Value.int .i64 0) := hZ.out.k.cell 1
    have e2 : _ = some (Value.string ⟨#[]⟩) := hZ.out.k.cell 2
    have e3 : _ = some (Value.string ⟨#[]⟩) := hZ.out.k.cell 3
    have e4 : _ = some (Value.bool false) := hZ.out.k.cell 4
    (try simp only [Exit.inBlock, Exit.then])
    refine bodyPost_ret (v := .tuple #[.agg #[(Value.slice none 0 0), (Value.int .i64 0), (Value.string ⟨#[]⟩), (Value.string ⟨#[]⟩), (Value.bool false)], .int .i64 19]) (by simp [results, Tryz.results13, go_sem, e0, e1, e2, e3, e4]) rfl ?_
    obtain rfl := HQ.out
    exact ⟨none, 0, φ', rfl, hZ.out.inv, SlV.empty φ'⟩
  ·obtain rfl : k = nm := by omega
   have hemz := hem
   go_upto_region 14 with (go_at_call 33; (with_reducible refine (HW.out _ _ hS.out.inv.fz hS.out.inv.le).mono ?_); rintro en w3 ⟨aw, cw, φ3, rfl, hi3, s3⟩; rw [hwl.out]; have H3 := Lib.hid (hS.out.call hi3); have SW3 := Lib.hid (s3.fxLe hNN (Nat.le_refl N)); have L3 := Lib.hid (hle.out.trans hi3.le); clear hi3 s3)
   clear hS hle
   have x2 : w3.cell? ⟨br, 2, none⟩ = some (.string s) := box_cell EB.out L3.out H3.out.inv.fz 2
   have x3 : w3.cell? ⟨br, 3, none⟩ = some (.string t0) := box_cell EB.out L3.out H3.out.inv.fz 3
   go_upto_region 15 with (go_at_call 42; (with_reducible refine (FracOf_P (RsSt.sta _ _ _ _ _) hD HM2.out hsz2 hrf he hbd H3).mono ?_); rintro en w4 ⟨g0, a0, k0, c0, a0', k0', c0', φ4, rfl, H4, L4, V4⟩)
   clear x2 x3
   obtain ⟨φ5, l5, i5, e5⟩ := (Inv.start H4.out.inv.fz).frz (.cells #[.bool g0, .slice a0 k0 c0, .slice a0' k0' c0'] 70)
   have H5 := Lib.hid (H4.out.call i5)
   have EE := Lib.hid e5
   have VE := Lib.hid (V4.out.mono l5)
   have L5 := Lib.hid (L3.out.trans (L4.out.trans l5))
   have SW5 := Lib.hid ((SW3.out.mono L4.out).mono l5)
   clear e5 i5 l5 H3 H4 V4 SW3
   generalize w4.alloc (.cells #[.bool g0, .slice a0 k0 c0, .slice a0' k0' c0'] 70) = w5 at *
   generalize w4.heap.size = b12 at *
   go_upto_region 16 with (go_at_call 43; (with_reducible refine (HDi.out _ wsL_len _ _ _ _ H5.out.inv.fz H5.out.inv.le SW5.out).mono ?_); rintro en w6 ⟨v6, φ6, rfl, hi6, hv6⟩; obtain ⟨g1, n6, m6, k1, k2, a1, c1, a2, c2, rfl, _⟩ := hv6.open; have H6 := Lib.hid (H5.out.call hi6); have V6 := Lib.hid hv6; have L6 := Lib.hid hi6.le; have SW6 := Lib.hid (SW5.out.mono hi6.le); clear hi6 hv6)
   have T6 := Lib.hid (DbT.mk2 H6.out #[.bool g1, .slice a1 k1 c1, .slice a2 k2 c2] 70)
   clear H5 H6 SW5
   generalize w6.alloc (.cells #[.bool g1, .slice a1 k1 c1, .slice a2 k2 c2] 70) = wb at *
   generalize w6.heap.size = b13 at *
   go_wp2
   go_loopw [11, 14] (fun wv tv wr => ∃ (t : Nat) (aw : Option Addr) (cw : Nat) (φ' : Phi) (g1 : Bool) (a1 : Option Addr) (k1 c1 : Nat) (a2 : Option Addr) (k2 c2 : Nat), t ≤ R ∧ wv = .slice aw n cw ∧ tv = .int .i64 (t : Int) ∧ Hid (φ5.le φ') ∧ Hid (∀ u, u < t → decide (e < dsM (rkW P mm l n u) mm l n k) = true) ∧ Hid (SlV φ' aw cw ((rkW P mm l n t).map (Fx.mk (N := N * N) (D := N)))) ∧ Hid (DbT 44 70 w φ φ' b6 #[.slice none 0 0, .int .i64 0, .string ⟨#[]⟩, .string ⟨#[]⟩, .bool false] b13 #[.bool g1, .slice a1 k1 c1, .slice a2 k2 c2] wr) ∧ Hid (FfX φ' (.agg #[.bool g1, .slice a1 k1 c1, .slice a2 k2 c2]) (dsM (rkW P mm l n t) mm l n k) ND DD)) (fun _ tv _ => R - (intOf tv).toNat)
   case atStart => exact ⟨0, aw, cw, φ6, g1, a1, k1, c1, a2, k2, c2, Nat.zero_le _, rfl, rfl, L6, Lib.hid (fun u hu => absurd hu (Nat.not_lt_zero u)), SW6, T6, V6⟩
   case round =>
    clear T6 V6 SW6 L6
    obtain ⟨t, aw, cw, φ', g1, a1, k1, c1, a2, k2, c2, htR, rfl, rfl, hle, hgs, hSW, hS, hV⟩ := hrel
    have y1 : wr.cell? ⟨br, 1, none⟩ = some (.int .i64 (R : Int)) := box_cell EB.out (L5.out.trans hle.out) hS.out.r.inv.fz 1
    by_cases htl : t < R
    ·have htli : (t : Int) < (R : Int) := by omega
     have y2 : wr.cell? ⟨b13, 0, none⟩ = some (.bool g1) := hS.out.d.k.cell 0
     have y3 : wr.cell? ⟨b13, 1, none⟩ = some (.slice a1 k1 c1) := hS.out.d.k.cell 1
     have y4 : wr.cell? ⟨b13, 2, none⟩ = some (.slice a2 k2 c2) := hS.out.d.k.cell 2
     have y5 : wr.cell? ⟨b12, 0, none⟩ = some (.bool g0) := box_cell EE.out hle.out hS.out.r.inv.fz 0
     have y6 : wr.cell? ⟨b12, 1, none⟩ = some (.slice a0 k0 c0) := box_cell EE.out hle.out hS.out.r.inv.fz 1
     have y7 : wr.cell? ⟨b12, 2, none⟩ = some (.slice a0' k0' c0') := box_cell EE.out hle.out hS.out.r.inv.fz 2
     obtain ⟨q, hq⟩ : ∃ q, Hid (cmpQ (dsM (rkW P mm l n t) mm l n k) e = q) := ⟨_, Lib.hid rfl⟩
     have hqp : 0 < q ↔ e < dsM (rkW P mm l n t) mm l n k := by rw [← hq.out]; exact cmpQ_gt
     have LRr := Lib.hid φ'.le_refl
     by_cases hq0 : 0 < q
     ·have hg1 : Hid (decide (e < dsM (rkW P mm l n t) mm l n k) = true) := Lib.hid (decide_eq_true (hqp.1 hq0))
      have hgs2 : Hid (∀ u, u < t + 1 → decide (e < dsM (rkW P mm l n u) mm l n k) = true) := Lib.hid (fun u hu => by
       by_cases e : u = t
       ·subst e; exact hg1.out
       ·exact hgs.out u (by omega))
      clear hqp
      go_upto_region 19 with (go_at_call 44; (with_reducible refine (Compare_P (DbT.sta _ _ _ _ _ _ _ _) hM hV LRr VE hle HBE hq hS).mono ?_); rintro en w7 ⟨rfl, S7⟩)
      clear y1 y2 y3 y4 y5 y6 y7 hq0
      go_wp2
      go_loopw [11, 66] (fun wv iv wr => ∃ (i : Nat) (aw : Option Addr) (cw : Nat) (φ7 : Phi), i ≤ k ∧ wv = .slice aw n cw ∧ iv = .int .i64 (i : Int) ∧ Hid (φ'.le φ7) ∧ Hid (SlV φ7 aw cw ((rkP P mm l n (rkW P mm l n t) i).map (Fx.mk (N := N * N) (D := N)))) ∧ Hid (DbT 44 70 w φ φ7 b6 #[.slice none 0 0, .int .i64 0, .string ⟨#[]⟩, .string ⟨#[]⟩, .bool false] b13 #[.bool g1, .slice a1 k1 c1, .slice a2 k2 c2] wr)) (fun _ iv _ => k - (intOf iv).toNat)
      case atStart => exact ⟨0, aw, cw, φ', Nat.zero_le _, rfl, rfl, Lib.hid φ'.le_refl, hSW, S7⟩
      case round =>
       clear S7 hSW hS hV
       obtain ⟨i, aw, cw, φ7, hi, rfl, rfl, hle7, hSW, hS⟩ := hrel
       by_cases hil : i < k
       ·have hili : (i : Int) < (k : Int) := by omega
        obtain ⟨nt, hnt9⟩ : ∃ x, Hid ((mm.getD i mgn0).2.length = x) := ⟨_, Lib.hid rfl⟩
        have hfl : Hid (((fitL (rndQ P) (rkP P mm l n (rkW P mm l n t) i) l i (mm.getD i mgn0).2 n n).map (Fx.mk (N := N * N) (D := N))).length = n) := Lib.hid (by rw [List.length_map, fitL_len])
        have HFi := Lib.hid (HF.out i hil nt hnt9 _ (rkP_len (rkW_len t) i) (hPnn.out t i hi))
        have hBR7 := Lib.hid ((L5.out.trans (hle.out.trans hle7.out)) _ _ EB.out)
        go_wp2_with (go_at_call 32; (with_reducible refine (HFi.out _ _ _ _ hS.out.r.inv.fz hS.out.r.inv.le hSW.out hBR7.out).mono ?_); rintro en w8 ⟨a8, c8, φ8, rfl, hi8, s8⟩; rw [hfl.out]; have S8 := Lib.hid (hS.out.call hi8); have SW8 := Lib.hid s8; have L8 := Lib.hid (hle7.out.trans hi8.le); clear hi8 s8)
        go_roundw
        case rel => exact ⟨i + 1, a8, c8, φ8, by omega, rfl, by go_num, L8, SW8, S8⟩
        case measure => (simp [intOf] <;> omega)
       ·obtain rfl : i = k := by omega
        have hSW9 : Hid (SlV φ7 aw cw ((rkW P mm l n (t + 1)).map (Fx.mk (N := N * N) (D := N)))) := Lib.hid (by
         show SlV φ7 aw cw ((rkP P mm l n (rkW P mm l n t) mm.length).map (Fx.mk (N := N * N) (D := N)))
         rw [hnm.out]; exact hSW.out)
        go_wp2_with (go_at_call 43; (with_reducible refine (HDi.out _ (rkW_len (t + 1)) _ _ _ _ hS.out.r.inv.fz hS.out.r.inv.le hSW9.out).mono ?_); rintro en w9 ⟨v9, φ9, rfl, hi9, hv9⟩; obtain ⟨g9, n9, m9, k9, k9', a9, c9, a9', c9', rfl, _⟩ := hv9.open; have S9 := Lib.hid (hS.out.call hi9); have V9 := Lib.hid hv9; have L9 := Lib.hid (hle.out.trans (hle7.out.trans hi9.le)); have SW9 := Lib.hid (hSW9.out.mono hi9.le); have u0 : w9.cell? ⟨b13, 0, none⟩ = some (.bool g1) := S9.out.d.k.cell 0; have u1 : w9.cell? ⟨b13, 1, none⟩ = some (.slice a1 k1 c1) := S9.out.d.k.cell 1; have u2 : w9.cell? ⟨b13, 2, none⟩ = some (.slice a2 k2 c2) := S9.out.d.k.cell 2; have u3 := S9.out.d.k.frz 0; have u4 := S9.out.d.k.frz 1; have u5 := S9.out.d.k.frz 2; clear hi9 hv9)
        go_roundw
        case rel => exact ⟨t + 1, aw, cw, φ9, g9, a9, k9, c9, a9', k9', c9', by omega, rfl, by go_num, L9, hgs2, SW9, Lib.hid (((S9.out.setD 0 (.bool g9)).setD 1 (.slice a9 k9 c9)).setD 2 (.slice a9' k9' c9')), V9⟩
        case measure => (simp [intOf] <;> omega)
     ·have hend : t = R ∨ decide (e < dsM (rkW P mm l n t) mm l n k) = false := .inr (decide_eq_false (fun h => hq0 (hqp.2 h)))
      clear hqp
      go_upto_region 25 with (go_at_call 44; (with_reducible refine (Compare_P (DbT.sta _ _ _ _ _ _ _ _) hM hV LRr VE hle HBE hq hS).mono ?_); rintro en w7 ⟨rfl, S7'⟩)
      clear y1 y2 y3 y4 y5 y6 y7 hq0
      have HRr := Lib.hid ((rakR_go hf.out hkf.out hnm.out hn.out hemz.out hP.out he.out (rkS_eq hgs.out htR hend)).symm.trans hR.out)
      obtain ⟨L0, hL0⟩ : ∃ x, (shtR (rkW P mm l n t)).1 = x := ⟨_, rfl⟩
      obtain ⟨F0, hF0⟩ : ∃ x, (shtR (rkW P mm l n t)).2 = x := ⟨_, rfl⟩
      have hsh : Hid (shtR (rkW P mm l n t) = (L0, F0)) := Lib.hid (by rw [← hL0, ← hF0])
      have hwlt : Hid ((rkW P mm l n t).length = n) := Lib.hid (rkW_len t)
      have HPx := Lib.hid (HP.out.mono S7'.out.r.inv.le)
      clear hL0 hF0 hend hgs
      by_cases hFz : F0 = 0
      case neg =>
       have HQ := Lib.hid (HRr.out.symm.trans (rakE_1 hsh.out hFz))
       have h0i : (F0 == 0) = false := by simp [hFz]
       have h0j : (F0 != 0) = true := by simp [hFz]
       clear hFz
       go_wp2_with (go_at_call 31; (with_reducible refine (Ratios_any hD hM hNM hDM S7'.out.r.inv.fz HPx.out hSW.out hwlt hn3 hsh).mono ?_); rintro en w7 ⟨aT, cT, φ7, rfl, hi7, s7⟩; have S7 := Lib.hid (S7'.out.call hi7); obtain ⟨z0, z1, z2, z3, z4, z5, z6, z7, z8, z9⟩ := S7.out.r.rkd; clear hi7 s7)
       have hZ := Lib.hid (((((S7.out.r.set 0 (Value.slice none 0 0)).set 1 (Value.int .i64 0)).set 2 (Value.string ⟨#[]⟩)).set 3 (Value.string ⟨#[]⟩)).set 4 (Value.bool false))
       have e0 : _ = some (Value.slice none 0 0) := hZ.out.k.cell 0
       have e1 : _ = some (Value.int .i64 0) := hZ.out.k.cell 1
       have e2 : _ = some (Value.string ⟨#[]⟩) := hZ.out.k.cell 2
       have e3 : _ = some (Value.string ⟨#[]⟩) := hZ.out.k.cell 3
       have e4 : _ = some (Value.bool false) := hZ.out.k.cell 4
       (try simp only [Exit.inBlock, Exit.then])
       refine bodyPost_ret (v := .tuple #[.agg #[(Value.slice none 0 0), (Value.int .i64 0), (Value.string ⟨#[]⟩), (Value.string ⟨#[]⟩), (Value.bool false)], .int .i64 F0]) (by simp [results, Tryz.results13, go_sem, e0, e1, e2, e3, e4]) rfl ?_
       obtain rfl := HQ.out
       exact ⟨none, 0, φ7, rfl, hZ.out.inv, SlV.empty φ7⟩
      case pos =>
       subst hFz
       obtain ⟨mL, hmL⟩ : ∃ x, Hid (L0.length = x) := ⟨_, Lib.hid rfl⟩
       have hml9 : Hid ((L0, (0 : Int)).1.length = mL) := hmL
       go_upto_region 28 with (go_at_call 31; (with_reducible refine (Ratios_any hD hM hNM hDM S7'.out.r.inv.fz HPx.out hSW.out hwlt hn3 hsh).mono ?_); rintro en w7 ⟨aT, cT, φ7, rfl, hi7, s7⟩; rw [hml9.out]; have S7 := Lib.hid (S7'.out.call hi7); have SL7 := Lib.hid s7; have L7 := Lib.hid hi7.le; have HV7 := Lib.hid (hV.out.mono hi7.le); clear hi7 s7)
       obtain ⟨S1, hS1⟩ : ∃ x, (ratR (dsM (rkW P mm l n t) mm l n k)).1 = x := ⟨_, rfl⟩
       obtain ⟨T1, hT1⟩ : ∃ x, (ratR (dsM (rkW P mm l n t) mm l n k)).2.1 = x := ⟨_, rfl⟩
       obtain ⟨F1, hF1⟩ : ∃ x, (ratR (dsM (rkW P mm l n t) mm l n k)).2.2 = x := ⟨_, rfl⟩
       have hrr : Hid (ratR (dsM (rkW P mm l n t) mm l n k) = (S1, T1, F1)) := Lib.hid (by rw [← hS1, ← hT1, ← hF1])
       have HP7 := Lib.hid (HPx.out.mono L7.out)
       have u0 : w7.cell? ⟨b13, 0, none⟩ = some (.bool g1) := S7.out.d.k.cell 0
       have u1 : w7.cell? ⟨b13, 1, none⟩ = some (.slice a1 k1 c1) := S7.out.d.k.cell 1
       have u2 : w7.cell? ⟨b13, 2, none⟩ = some (.slice a2 k2 c2) := S7.out.d.k.cell 2
       clear hS1 hT1 hF1
       go_upto_region 29 with (go_at_call 47; (with_reducible refine (PRatio_any hD hM S7.out.r.inv.fz HP7.out HV7.out hNDM hDDM hrr).mono ?_); rintro en w8 ⟨rfl, hb8⟩; have S8 := Lib.hid (S7.out.callB hb8); clear hb8)
       clear u0 u1 u2
       obtain ⟨φ9, l9, i9, e9⟩ := (Inv.start S8.out.r.inv.fz).frz (.cells #[.string S1, .string T1] 32)
       have S9 := Lib.hid (S8.out.call i9)
       obtain ⟨φz, lz, hrz, ez⟩ := S9.out.frz
       have SF := Lib.hid hrz
       have EDz := Lib.hid ez
       have E9z := Lib.hid (lz _ _ e9)
       have Lz := Lib.hid (L7.out.trans (l9.trans lz))
       have VDz := Lib.hid ((HV7.out.mono l9).mono lz)
       have SLz := Lib.hid ((SL7.out.mono l9).mono lz)
       clear i9 e9 l9 lz hrz ez S9
       generalize w8.alloc (.cells #[.string S1, .string T1] 32) = w9 at *
       generalize w8.heap.size = b9 at *
       clear S8 S7 HV7 SL7
       by_cases hF1z : F1 = 0
       case neg =>
        have HQ := Lib.hid (HRr.out.symm.trans (rakE_2 hnm.out hn.out hsh.out hrr.out hF1z))
        have h0i : (F1 == 0) = false := by simp [hF1z]
        have h0j : (F1 != 0) = true := by simp [hF1z]
        clear hF1z
        obtain ⟨z0, z1, z2, z3, z4, z5, z6, z7, z8, z9⟩ := SF.out.rkd
        go_wp2
        have hZ := Lib.hid (((((SF.out.set 0 (Value.slice none 0 0)).set 1 (Value.int .i64 0)).set 2 (Value.string ⟨#[]⟩)).set 3 (Value.string ⟨#[]⟩)).set 4 (Value.bool false))
        have e0 : _ = some (Value.slice none 0 0) := hZ.out.k.cell 0
        have e1 : _ = some (Value.int .i64 0) := hZ.out.k.cell 1
        have e2 : _ = some (Value.string ⟨#[]⟩) := hZ.out.k.cell 2
        have e3 : _ = some (Value.string ⟨#[]⟩) := hZ.out.k.cell 3
        have e4 : _ = some (Value.bool false) := hZ.out.k.cell 4
        (try simp only [Exit.inBlock, Exit.then])
        refine bodyPost_ret (v := .tuple #[.agg #[(Value.slice none 0 0), (Value.int .i64 0), (Value.string ⟨#[]⟩), (Value.string ⟨#[]⟩), (Value.bool false)], .int .i64 F1]) (by simp [results, Tryz.results13, go_sem, e0, e1, e2, e3, e4]) rfl ?_
        obtain rfl := HQ.out
        exact ⟨none, 0, φz, rfl, hZ.out.inv, SlV.empty φz⟩
       case pos =>
        subst hF1z
        go_upto_region 31 with fail
        have SFd : Hid (RsSt w φ φz b6 #[.slice none 0 0, .int .i64 0, .string ⟨#[]⟩, .string ⟨#[]⟩, .bool false] 44 w9.drew) := Lib.hid (SF.out.callB (bdrewN (Below.refl _ w9) 1))
        have EEz := Lib.hid (Lz.out _ _ (hle.out _ _ EE.out))
        have VEz := Lib.hid ((VE.out.mono hle.out).mono Lz.out)
        have LRz := Lib.hid φz.le_refl
        have hcf := Lib.hid (fun (W : World) (hf : Fz φz W) => (⟨box_cell E9z.out φz.le_refl hf 0, box_cell E9z.out φz.le_refl hf 1, box_cell EDz.out φz.le_refl hf 0, box_cell EDz.out φz.le_refl hf 1, box_cell EDz.out φz.le_refl hf 2, box_cell EEz.out φz.le_refl hf 0, box_cell EEz.out φz.le_refl hf 1, box_cell EEz.out φz.le_refl hf 2⟩ : W.cell? ⟨b9, 0, none⟩ = some (.string S1) ∧ W.cell? ⟨b9, 1, none⟩ = some (.string T1) ∧ W.cell? ⟨b13, 0, none⟩ = some (.bool g1) ∧ W.cell? ⟨b13, 1, none⟩ = some (.slice a1 k1 c1) ∧ W.cell? ⟨b13, 2, none⟩ = some (.slice a2 k2 c2) ∧ W.cell? ⟨b12, 0, none⟩ = some (.bool g0) ∧ W.cell? ⟨b12, 1, none⟩ = some (.slice a0 k0 c0) ∧ W.cell? ⟨b12, 2, none⟩ = some (.slice a0' k0' c0')))
        obtain ⟨x0, x1, x2, x3, x4, x5, x6, x7⟩ := hcf.out w9.drew SFd.out.inv.fz
        obtain ⟨y0, y1, y2, y3, y4, y5, y6, y7⟩ := hcf.out w9 SF.out.inv.fz
        by_cases hde : dsM (rkW P mm l n t) mm l n k < e
        ·have hq3 : Hid (cmpQ (dsM (rkW P mm l n t) mm l n k) e = -1) := Lib.hid (by unfold cmpQ; rw [if_pos hde])
         have hle3 := Rat.le_of_lt hde
         clear hde
         have hbq : decide (dsM (rkW P mm l n t) mm l n k ≤ e) = true := decide_eq_true hle3
         have HQ := Lib.hid (HRr.out.symm.trans (rakE_3 hnm.out hn.out hsh.out hrr.out hbq))
         clear hbq
         go_region_held3 (fun w' => w'.cell? ⟨b9, 0, none⟩ = some (.string S1) ∧ w'.cell? ⟨b9, 1, none⟩ = some (.string T1) ∧ w'.cell? ⟨b13, 0, none⟩ = some (.bool g1) ∧ w'.cell? ⟨b13, 1, none⟩ = some (.slice a1 k1 c1) ∧ w'.cell? ⟨b13, 2, none⟩ = some (.slice a2 k2 c2) ∧ w'.cell? ⟨b12, 0, none⟩ = some (.bool g0) ∧ w'.cell? ⟨b12, 1, none⟩ = some (.slice a0 k0 c0) ∧ w'.cell? ⟨b12, 2, none⟩ = some (.slice a0' k0' c0')) (first | done | with_reducible exact ⟨x0, x1, x2, x3, x4, x5, x6, x7⟩ | with_reducible exact ⟨y0, y1, y2, y3, y4, y5, y6, y7⟩ | with_reducible exact ⟨by assumption, by assumption, by assumption, by assumption, by assumption, by assumption, by assumption, by assumption⟩ | fail) (first
          | ((with_reducible refine (Compare_P (RsSt.sta _ _ _ _ _) hM VDz LRz VEz LRz HBE hq3 SFd).mono ?_); rintro en wC ⟨rfl, SC⟩; obtain ⟨z0, z1, z2, z3, z4, z5, z6, z7, z8, z9⟩ := SC.out.rkd; obtain ⟨o0, o1, o2, o3, o4, o5, o6, o7⟩ := hcf.out wC SC.out.inv.fz; have hst := Lib.hid (((((SC.out.set 0 (Value.slice aT mL cT)).set 1 (Value.int .i64 (t : Int))).set 2 (Value.string S1)).set 3 (Value.string T1)).set 4 (Value.bool true)); obtain ⟨n0, n1, n2, n3, n4, n5, n6, n7⟩ := hcf.out _ hst.out.inv.fz)
          | fail)
         all_goals
          go_wp2
          have hZ := Lib.hid (((((SC.out.set 0 (Value.slice aT mL cT)).set 1 (Value.int .i64 (t : Int))).set 2 (Value.string S1)).set 3 (Value.string T1)).set 4 (Value.bool true))
          have e0 : _ = some (Value.slice aT mL cT) := hZ.out.k.cell 0
          have e1 : _ = some (Value.int .i64 (t : Int)) := hZ.out.k.cell 1
          have e2 : _ = some (Value.string S1) := hZ.out.k.cell 2
          have e3 : _ = some (Value.string T1) := hZ.out.k.cell 3
          have e4 : _ = some (Value.bool true) := hZ.out.k.cell 4
          (try simp only [Exit.inBlock, Exit.then])
          refine bodyPost_ret (v := .tuple #[.agg #[(Value.slice aT mL cT), (Value.int .i64 (t : Int)), (Value.string S1), (Value.string T1), (Value.bool true)], .int .i64 0]) (by simp [results, Tryz.results13, go_sem, e0, e1, e2, e3, e4]) rfl ?_
          have hmm := hmL.out
          subst hmm
          obtain rfl := HQ.out
          exact ⟨aT, cT, φz, rfl, hZ.out.inv, SLz.out⟩
        ·by_cases hde2 : dsM (rkW P mm l n t) mm l n k = e
         ·have hq3 : Hid (cmpQ (dsM (rkW P mm l n t) mm l n k) e = 0) := Lib.hid (by unfold cmpQ; rw [if_neg hde, if_pos hde2])
          have hle3 : dsM (rkW P mm l n t) mm l n k ≤ e := by rw [hde2]; exact Rat.le_refl
          clear hde hde2
          have hbq : decide (dsM (rkW P mm l n t) mm l n k ≤ e) = true := decide_eq_true hle3
          have HQ := Lib.hid (HRr.out.symm.trans (rakE_3 hnm.out hn.out hsh.out hrr.out hbq))
          clear hbq
          go_region_held3 (fun w' => w'.cell? ⟨b9, 0, none⟩ = some (.string S1) ∧ w'.cell? ⟨b9, 1, none⟩ = some (.string T1) ∧ w'.cell? ⟨b13, 0, none⟩ = some (.bool g1) ∧ w'.cell? ⟨b13, 1, none⟩ = some (.slice a1 k1 c1) ∧ w'.cell? ⟨b13, 2, none⟩ = some (.slice a2 k2 c2) ∧ w'.cell? ⟨b12, 0, none⟩ = some (.bool g0) ∧ w'.cell? ⟨b12, 1, none⟩ = some (.slice a0 k0 c0) ∧ w'.cell? ⟨b12, 2, none⟩ = some (.slice a0' k0' c0')) (first | done | with_reducible exact ⟨x0, x1, x2, x3, x4, x5, x6, x7⟩ | with_reducible exact ⟨y0, y1, y2, y3, y4, y5, y6, y7⟩ | with_reducible exact ⟨by assumption, by assumption, by assumption, by assumption, by assumption, by assumption, by assumption, by assumption⟩ | fail) (first
           | ((with_reducible refine (Compare_P (RsSt.sta _ _ _ _ _) hM VDz LRz VEz LRz HBE hq3 SFd).mono ?_); rintro en wC ⟨rfl, SC⟩; obtain ⟨z0, z1, z2, z3, z4, z5, z6, z7, z8, z9⟩ := SC.out.rkd; obtain ⟨o0, o1, o2, o3, o4, o5, o6, o7⟩ := hcf.out wC SC.out.inv.fz; have hst := Lib.hid (((((SC.out.set 0 (Value.slice aT mL cT)).set 1 (Value.int .i64 (t : Int))).set 2 (Value.string S1)).set 3 (Value.string T1)).set 4 (Value.bool true)); obtain ⟨n0, n1, n2, n3, n4, n5, n6, n7⟩ := hcf.out _ hst.out.inv.fz)
           | fail)
          all_goals
           go_wp2
           have hZ := Lib.hid (((((SC.out.set 0 (Value.slice aT mL cT)).set 1 (Value.int .i64 (t : Int))).set 2 (Value.string S1)).set 3 (Value.string T1)).set 4 (Value.bool true))
           have e0 : _ = some (Value.slice aT mL cT) := hZ.out.k.cell 0
           have e1 : _ = some (Value.int .i64 (t : Int)) := hZ.out.k.cell 1
           have e2 : _ = some (Value.string S1) := hZ.out.k.cell 2
           have e3 : _ = some (Value.string T1) := hZ.out.k.cell 3
           have e4 : _ = some (Value.bool true) := hZ.out.k.cell 4
           (try simp only [Exit.inBlock, Exit.then])
           refine bodyPost_ret (v := .tuple #[.agg #[(Value.slice aT mL cT), (Value.int .i64 (t : Int)), (Value.string S1), (Value.string T1), (Value.bool true)], .int .i64 0]) (by simp [results, Tryz.results13, go_sem, e0, e1, e2, e3, e4]) rfl ?_
           have hmm := hmL.out
           subst hmm
           obtain rfl := HQ.out
           exact ⟨aT, cT, φz, rfl, hZ.out.inv, SLz.out⟩
         ·have hq3 : Hid (cmpQ (dsM (rkW P mm l n t) mm l n k) e = 1) := Lib.hid (by unfold cmpQ; rw [if_neg hde, if_neg hde2])
          have hle3 : ¬ dsM (rkW P mm l n t) mm l n k ≤ e := fun h => by
           rcases Rat.le_iff_lt_or_eq.1 h with q | q
           ·exact hde q
           ·exact hde2 q
          clear hde hde2
          have hbq : decide (dsM (rkW P mm l n t) mm l n k ≤ e) = false := decide_eq_false hle3
          have HQ := Lib.hid (HRr.out.symm.trans (rakE_3 hnm.out hn.out hsh.out hrr.out hbq))
          clear hbq
          go_region_held3 (fun w' => w'.cell? ⟨b9, 0, none⟩ = some (.string S1) ∧ w'.cell? ⟨b9, 1, none⟩ = some (.string T1) ∧ w'.cell? ⟨b13, 0, none⟩ = some (.bool g1) ∧ w'.cell? ⟨b13, 1, none⟩ = some (.slice a1 k1 c1) ∧ w'.cell? ⟨b13, 2, none⟩ = some (.slice a2 k2 c2) ∧ w'.cell? ⟨b12, 0, none⟩ = some (.bool g0) ∧ w'.cell? ⟨b12, 1, none⟩ = some (.slice a0 k0 c0) ∧ w'.cell? ⟨b12, 2, none⟩ = some (.slice a0' k0' c0')) (first | done | with_reducible exact ⟨x0, x1, x2, x3, x4, x5, x6, x7⟩ | with_reducible exact ⟨y0, y1, y2, y3, y4, y5, y6, y7⟩ | with_reducible exact ⟨by assumption, by assumption, by assumption, by assumption, by assumption, by assumption, by assumption, by assumption⟩ | fail) (first
           | ((with_reducible refine (Compare_P (RsSt.sta _ _ _ _ _) hM VDz LRz VEz LRz HBE hq3 SFd).mono ?_); rintro en wC ⟨rfl, SC⟩; obtain ⟨z0, z1, z2, z3, z4, z5, z6, z7, z8, z9⟩ := SC.out.rkd; obtain ⟨o0, o1, o2, o3, o4, o5, o6, o7⟩ := hcf.out wC SC.out.inv.fz; have hst := Lib.hid (((((SC.out.set 0 (Value.slice aT mL cT)).set 1 (Value.int .i64 (t : Int))).set 2 (Value.string S1)).set 3 (Value.string T1)).set 4 (Value.bool false)); obtain ⟨n0, n1, n2, n3, n4, n5, n6, n7⟩ := hcf.out _ hst.out.inv.fz)
           | fail)
          all_goals
           go_wp2
           have hZ := Lib.hid (((((SC.out.set 0 (Value.slice aT mL cT)).set 1 (Value.int .i64 (t : Int))).set 2 (Value.string S1)).set 3 (Value.string T1)).set 4 (Value.bool false))
           have e0 : _ = some (Value.slice aT mL cT) := hZ.out.k.cell 0
           have e1 : _ = some (Value.int .i64 (t : Int)) := hZ.out.k.cell 1
           have e2 : _ = some (Value.string S1) := hZ.out.k.cell 2
           have e3 : _ = some (Value.string T1) := hZ.out.k.cell 3
           have e4 : _ = some (Value.bool false) := hZ.out.k.cell 4
           (try simp only [Exit.inBlock, Exit.then])
           refine bodyPost_ret (v := .tuple #[.agg #[(Value.slice aT mL cT), (Value.int .i64 (t : Int)), (Value.string S1), (Value.string T1), (Value.bool false)], .int .i64 0]) (by simp [results, Tryz.results13, go_sem, e0, e1, e2, e3, e4]) rfl ?_
           have hmm := hmL.out
           subst hmm
           obtain rfl := HQ.out
           exact ⟨aT, cT, φz, rfl, hZ.out.inv, SLz.out⟩
    ·have hend : t = R ∨ decide (e < dsM (rkW P mm l n t) mm l n k) = false := .inl (by omega)
     have htli : ¬ (t : Int) < (R : Int) := by omega
     go_upto_region 25 with fail
     clear y1
     have HRr := Lib.hid ((rakR_go hf.out hkf.out hnm.out hn.out hemz.out hP.out he.out (rkS_eq hgs.out htR hend)).symm.trans hR.out)
     obtain ⟨L0, hL0⟩ : ∃ x, (shtR (rkW P mm l n t)).1 = x := ⟨_, rfl⟩
     obtain ⟨F0, hF0⟩ : ∃ x, (shtR (rkW P mm l n t)).2 = x := ⟨_, rfl⟩
     have hsh : Hid (shtR (rkW P mm l n t) = (L0, F0)) := Lib.hid (by rw [← hL0, ← hF0])
     have hwlt : Hid ((rkW P mm l n t).length = n) := Lib.hid (rkW_len t)
     have HPx := Lib.hid (HP.out.mono hS.out.r.inv.le)
     clear hL0 hF0 hend hgs
     by_cases hFz : F0 = 0
     case neg =>
      have HQ := Lib.hid (HRr.out.symm.trans (rakE_1 hsh.out hFz))
      have h0i : (F0 == 0) = false := by simp [hFz]
      have h0j : (F0 != 0) = true := by simp [hFz]
      clear hFz
      go_wp2_with (go_at_call 31; (with_reducible refine (Ratios_any hD hM hNM hDM hS.out.r.inv.fz HPx.out hSW.out hwlt hn3 hsh).mono ?_); rintro en w7 ⟨aT, cT, φ7, rfl, hi7, s7⟩; have S7 := Lib.hid (hS.out.call hi7); obtain ⟨z0, z1, z2, z3, z4, z5, z6, z7, z8, z9⟩ := S7.out.r.rkd; clear hi7 s7)
      have hZ := Lib.hid (((((S7.out.r.set 0 (Value.slice none 0 0)).set 1 (Value.int .i64 0)).set 2 (Value.string ⟨#[]⟩)).set 3 (Value.string ⟨#[]⟩)).set 4 (Value.bool false))
      have e0 : _ = some (Value.slice none 0 0) := hZ.out.k.cell 0
      have e1 : _ = some (Value.int .i64 0) := hZ.out.k.cell 1
      have e2 : _ = some (Value.string ⟨#[]⟩) := hZ.out.k.cell 2
      have e3 : _ = some (Value.string ⟨#[]⟩) := hZ.out.k.cell 3
      have e4 : _ = some (Value.bool false) := hZ.out.k.cell 4
      (try simp only [Exit.inBlock, Exit.then])
      refine bodyPost_ret (v := .tuple #[.agg #[(Value.slice none 0 0), (Value.int .i64 0), (Value.string ⟨#[]⟩), (Value.string ⟨#[]⟩), (Value.bool false)], .int .i64 F0]) (by simp [results, Tryz.results13, go_sem, e0, e1, e2, e3, e4]) rfl ?_
      obtain rfl := HQ.out
      exact ⟨none, 0, φ7, rfl, hZ.out.inv, SlV.empty φ7⟩
     case pos =>
      subst hFz
      obtain ⟨mL, hmL⟩ : ∃ x, Hid (L0.length = x) := ⟨_, Lib.hid rfl⟩
      have hml9 : Hid ((L0, (0 : Int)).1.length = mL) := hmL
      go_upto_region 28 with (go_at_call 31; (with_reducible refine (Ratios_any hD hM hNM hDM hS.out.r.inv.fz HPx.out hSW.out hwlt hn3 hsh).mono ?_); rintro en w7 ⟨aT, cT, φ7, rfl, hi7, s7⟩; rw [hml9.out]; have S7 := Lib.hid (hS.out.call hi7); have SL7 := Lib.hid s7; have L7 := Lib.hid hi7.le; have HV7 := Lib.hid (hV.out.mono hi7.le); clear hi7 s7)
      obtain ⟨S1, hS1⟩ : ∃ x, (ratR (dsM (rkW P mm l n t) mm l n k)).1 = x := ⟨_, rfl⟩
      obtain ⟨T1, hT1⟩ : ∃ x, (ratR (dsM (rkW P mm l n t) mm l n k)).2.1 = x := ⟨_, rfl⟩
      obtain ⟨F1, hF1⟩ : ∃ x, (ratR (dsM (rkW P mm l n t) mm l n k)).2.2 = x := ⟨_, rfl⟩
      have hrr : Hid (ratR (dsM (rkW P mm l n t) mm l n k) = (S1, T1, F1)) := Lib.hid (by rw [← hS1, ← hT1, ← hF1])
      have HP7 := Lib.hid (HPx.out.mono L7.out)
      have u0 : w7.cell? ⟨b13, 0, none⟩ = some (.bool g1) := S7.out.d.k.cell 0
      have u1 : w7.cell? ⟨b13, 1, none⟩ = some (.slice a1 k1 c1) := S7.out.d.k.cell 1
      have u2 : w7.cell? ⟨b13, 2, none⟩ = some (.slice a2 k2 c2) := S7.out.d.k.cell 2
      clear hS1 hT1 hF1
      go_upto_region 29 with (go_at_call 47; (with_reducible refine (PRatio_any hD hM S7.out.r.inv.fz HP7.out HV7.out hNDM hDDM hrr).mono ?_); rintro en w8 ⟨rfl, hb8⟩; have S8 := Lib.hid (S7.out.callB hb8); clear hb8)
      clear u0 u1 u2
      obtain ⟨φ9, l9, i9, e9⟩ := (Inv.start S8.out.r.inv.fz).frz (.cells #[.string S1, .string T1] 32)
      have S9 := Lib.hid (S8.out.call i9)
      obtain ⟨φz, lz, hrz, ez⟩ := S9.out.frz
      have SF := Lib.hid hrz
      have EDz := Lib.hid ez
      have E9z := Lib.hid (lz _ _ e9)
      have Lz := Lib.hid (L7.out.trans (l9.trans lz))
      have VDz := Lib.hid ((HV7.out.mono l9).mono lz)
      have SLz := Lib.hid ((SL7.out.mono l9).mono lz)
      clear i9 e9 l9 lz hrz ez S9
      generalize w8.alloc (.cells #[.string S1, .string T1] 32) = w9 at *
      generalize w8.heap.size = b9 at *
      clear S8 S7 HV7 SL7
      by_cases hF1z : F1 = 0
      case neg =>
       have HQ := Lib.hid (HRr.out.symm.trans (rakE_2 hnm.out hn.out hsh.out hrr.out hF1z))
       have h0i : (F1 == 0) = false := by simp [hF1z]
       have h0j : (F1 != 0) = true := by simp [hF1z]
       clear hF1z
       obtain ⟨z0, z1, z2, z3, z4, z5, z6, z7, z8, z9⟩ := SF.out.rkd
       go_wp2
       have hZ := Lib.hid (((((SF.out.set 0 (Value.slice none 0 0)).set 1 (Value.int .i64 0)).set 2 (Value.string ⟨#[]⟩)).set 3 (Value.string ⟨#[]⟩)).set 4 (Value.bool false))
       have e0 : _ = some (Value.slice none 0 0) := hZ.out.k.cell 0
       have e1 : _ = some (Value.int .i64 0) := hZ.out.k.cell 1
       have e2 : _ = some (Value.string ⟨#[]⟩) := hZ.out.k.cell 2
       have e3 : _ = some (Value.string ⟨#[]⟩) := hZ.out.k.cell 3
       have e4 : _ = some (Value.bool false) := hZ.out.k.cell 4
       (try simp only [Exit.inBlock, Exit.then])
       refine bodyPost_ret (v := .tuple #[.agg #[(Value.slice none 0 0), (Value.int .i64 0), (Value.string ⟨#[]⟩), (Value.string ⟨#[]⟩), (Value.bool false)], .int .i64 F1]) (by simp [results, Tryz.results13, go_sem, e0, e1, e2, e3, e4]) rfl ?_
       obtain rfl := HQ.out
       exact ⟨none, 0, φz, rfl, hZ.out.inv, SlV.empty φz⟩
      case pos =>
       subst hF1z
       go_upto_region 31 with fail
       have SFd : Hid (RsSt w φ φz b6 #[.slice none 0 0, .int .i64 0, .string ⟨#[]⟩, .string ⟨#[]⟩, .bool false] 44 w9.drew) := Lib.hid (SF.out.callB (bdrewN (Below.refl _ w9) 1))
       have EEz := Lib.hid (Lz.out _ _ (hle.out _ _ EE.out))
       have VEz := Lib.hid ((VE.out.mono hle.out).mono Lz.out)
       have LRz := Lib.hid φz.le_refl
       have hcf := Lib.hid (fun (W : World) (hf : Fz φz W) => (⟨box_cell E9z.out φz.le_refl hf 0, box_cell E9z.out φz.le_refl hf 1, box_cell EDz.out φz.le_refl hf 0, box_cell EDz.out φz.le_refl hf 1, box_cell EDz.out φz.le_refl hf 2, box_cell EEz.out φz.le_refl hf 0, box_cell EEz.out φz.le_refl hf 1, box_cell EEz.out φz.le_refl hf 2⟩ : W.cell? ⟨b9, 0, none⟩ = some (.string S1) ∧ W.cell? ⟨b9, 1, none⟩ = some (.string T1) ∧ W.cell? ⟨b13, 0, none⟩ = some (.bool g1) ∧ W.cell? ⟨b13, 1, none⟩ = some (.slice a1 k1 c1) ∧ W.cell? ⟨b13, 2, none⟩ = some (.slice a2 k2 c2) ∧ W.cell? ⟨b12, 0, none⟩ = some (.bool g0) ∧ W.cell? ⟨b12, 1, none⟩ = some (.slice a0 k0 c0) ∧ W.cell? ⟨b12, 2, none⟩ = some (.slice a0' k0' c0')))
       obtain ⟨x0, x1, x2, x3, x4, x5, x6, x7⟩ := hcf.out w9.drew SFd.out.inv.fz
       obtain ⟨y0, y1, y2, y3, y4, y5, y6, y7⟩ := hcf.out w9 SF.out.inv.fz
       by_cases hde : dsM (rkW P mm l n t) mm l n k < e
       ·have hq3 : Hid (cmpQ (dsM (rkW P mm l n t) mm l n k) e = -1) := Lib.hid (by unfold cmpQ; rw [if_pos hde])
        have hle3 := Rat.le_of_lt hde
        clear hde
        have hbq : decide (dsM (rkW P mm l n t) mm l n k ≤ e) = true := decide_eq_true hle3
        have HQ := Lib.hid (HRr.out.symm.trans (rakE_3 hnm.out hn.out hsh.out hrr.out hbq))
        clear hbq
        go_region_held3 (fun w' => w'.cell? ⟨b9, 0, none⟩ = some (.string S1) ∧ w'.cell? ⟨b9, 1, none⟩ = some (.string T1) ∧ w'.cell? ⟨b13, 0, none⟩ = some (.bool g1) ∧ w'.cell? ⟨b13, 1, none⟩ = some (.slice a1 k1 c1) ∧ w'.cell? ⟨b13, 2, none⟩ = some (.slice a2 k2 c2) ∧ w'.cell? ⟨b12, 0, none⟩ = some (.bool g0) ∧ w'.cell? ⟨b12, 1, none⟩ = some (.slice a0 k0 c0) ∧ w'.cell? ⟨b12, 2, none⟩ = some (.slice a0' k0' c0')) (first | done | with_reducible exact ⟨x0, x1, x2, x3, x4, x5, x6, x7⟩ | with_reducible exact ⟨y0, y1, y2, y3, y4, y5, y6, y7⟩ | with_reducible exact ⟨by assumption, by assumption, by assumption, by assumption, by assumption, by assumption, by assumption, by assumption⟩ | fail) (first
         | ((with_reducible refine (Compare_P (RsSt.sta _ _ _ _ _) hM VDz LRz VEz LRz HBE hq3 SFd).mono ?_); rintro en wC ⟨rfl, SC⟩; obtain ⟨z0, z1, z2, z3, z4, z5, z6, z7, z8, z9⟩ := SC.out.rkd; obtain ⟨o0, o1, o2, o3, o4, o5, o6, o7⟩ := hcf.out wC SC.out.inv.fz; have hst := Lib.hid (((((SC.out.set 0 (Value.slice aT mL cT)).set 1 (Value.int .i64 (t : Int))).set 2 (Value.string S1)).set 3 (Value.string T1)).set 4 (Value.bool true)); obtain ⟨n0, n1, n2, n3, n4, n5, n6, n7⟩ := hcf.out _ hst.out.inv.fz)
         | fail)
        all_goals
         go_wp2
         have hZ := Lib.hid (((((SC.out.set 0 (Value.slice aT mL cT)).set 1 (Value.int .i64 (t : Int))).set 2 (Value.string S1)).set 3 (Value.string T1)).set 4 (Value.bool true))
         have e0 : _ = some (Value.slice aT mL cT) := hZ.out.k.cell 0
         have e1 : _ = some (Value.int .i64 (t : Int)) := hZ.out.k.cell 1
         have e2 : _ = some (Value.string S1) := hZ.out.k.cell 2
         have e3 : _ = some (Value.string T1) := hZ.out.k.cell 3
         have e4 : _ = some (Value.bool true) := hZ.out.k.cell 4
         (try simp only [Exit.inBlock, Exit.then])
         refine bodyPost_ret (v := .tuple #[.agg #[(Value.slice aT mL cT), (Value.int .i64 (t : Int)), (Value.string S1), (Value.string T1), (Value.bool true)], .int .i64 0]) (by simp [results, Tryz.results13, go_sem, e0, e1, e2, e3, e4]) rfl ?_
         have hmm := hmL.out
         subst hmm
         obtain rfl := HQ.out
         exact ⟨aT, cT, φz, rfl, hZ.out.inv, SLz.out⟩
       ·by_cases hde2 : dsM (rkW P mm l n t) mm l n k = e
        ·have hq3 : Hid (cmpQ (dsM (rkW P mm l n t) mm l n k) e = 0) := Lib.hid (by unfold cmpQ; rw [if_neg hde, if_pos hde2])
         have hle3 : dsM (rkW P mm l n t) mm l n k ≤ e := by rw [hde2]; exact Rat.le_refl
         clear hde hde2
         have hbq : decide (dsM (rkW P mm l n t) mm l n k ≤ e) = true := decide_eq_true hle3
         have HQ := Lib.hid (HRr.out.symm.trans (rakE_3 hnm.out hn.out hsh.out hrr.out hbq))
         clear hbq
         go_region_held3 (fun w' => w'.cell? ⟨b9, 0, none⟩ = some (.string S1) ∧ w'.cell? ⟨b9, 1, none⟩ = some (.string T1) ∧ w'.cell? ⟨b13, 0, none⟩ = some (.bool g1) ∧ w'.cell? ⟨b13, 1, none⟩ = some (.slice a1 k1 c1) ∧ w'.cell? ⟨b13, 2, none⟩ = some (.slice a2 k2 c2) ∧ w'.cell? ⟨b12, 0, none⟩ = some (.bool g0) ∧ w'.cell? ⟨b12, 1, none⟩ = some (.slice a0 k0 c0) ∧ w'.cell? ⟨b12, 2, none⟩ = some (.slice a0' k0' c0')) (first | done | with_reducible exact ⟨x0, x1, x2, x3, x4, x5, x6, x7⟩ | with_reducible exact ⟨y0, y1, y2, y3, y4, y5, y6, y7⟩ | with_reducible exact ⟨by assumption, by assumption, by assumption, by assumption, by assumption, by assumption, by assumption, by assumption⟩ | fail) (first
          | ((with_reducible refine (Compare_P (RsSt.sta _ _ _ _ _) hM VDz LRz VEz LRz HBE hq3 SFd).mono ?_); rintro en wC ⟨rfl, SC⟩; obtain ⟨z0, z1, z2, z3, z4, z5, z6, z7, z8, z9⟩ := SC.out.rkd; obtain ⟨o0, o1, o2, o3, o4, o5, o6, o7⟩ := hcf.out wC SC.out.inv.fz; have hst := Lib.hid (((((SC.out.set 0 (Value.slice aT mL cT)).set 1 (Value.int .i64 (t : Int))).set 2 (Value.string S1)).set 3 (Value.string T1)).set 4 (Value.bool true)); obtain ⟨n0, n1, n2, n3, n4, n5, n6, n7⟩ := hcf.out _ hst.out.inv.fz)
          | fail)
         all_goals
          go_wp2
          have hZ := Lib.hid (((((SC.out.set 0 (Value.slice aT mL cT)).set 1 (Value.int .i64 (t : Int))).set 2 (Value.string S1)).set 3 (Value.string T1)).set 4 (Value.bool true))
          have e0 : _ = some (Value.slice aT mL cT) := hZ.out.k.cell 0
          have e1 : _ = some (Value.int .i64 (t : Int)) := hZ.out.k.cell 1
          have e2 : _ = some (Value.string S1) := hZ.out.k.cell 2
          have e3 : _ = some (Value.string T1) := hZ.out.k.cell 3
          have e4 : _ = some (Value.bool true) := hZ.out.k.cell 4
          (try simp only [Exit.inBlock, Exit.then])
          refine bodyPost_ret (v := .tuple #[.agg #[(Value.slice aT mL cT), (Value.int .i64 (t : Int)), (Value.string S1), (Value.string T1), (Value.bool true)], .int .i64 0]) (by simp [results, Tryz.results13, go_sem, e0, e1, e2, e3, e4]) rfl ?_
          have hmm := hmL.out
          subst hmm
          obtain rfl := HQ.out
          exact ⟨aT, cT, φz, rfl, hZ.out.inv, SLz.out⟩
        ·have hq3 : Hid (cmpQ (dsM (rkW P mm l n t) mm l n k) e = 1) := Lib.hid (by unfold cmpQ; rw [if_neg hde, if_neg hde2])
         have hle3 : ¬ dsM (rkW P mm l n t) mm l n k ≤ e := fun h => by
          rcases Rat.le_iff_lt_or_eq.1 h with q | q
          ·exact hde q
          ·exact hde2 q
         clear hde hde2
         have hbq : decide (dsM (rkW P mm l n t) mm l n k ≤ e) = false := decide_eq_false hle3
         have HQ := Lib.hid (HRr.out.symm.trans (rakE_3 hnm.out hn.out hsh.out hrr.out hbq))
         clear hbq
         go_region_held3 (fun w' => w'.cell? ⟨b9, 0, none⟩ = some (.string S1) ∧ w'.cell? ⟨b9, 1, none⟩ = some (.string T1) ∧ w'.cell? ⟨b13, 0, none⟩ = some (.bool g1) ∧ w'.cell? ⟨b13, 1, none⟩ = some (.slice a1 k1 c1) ∧ w'.cell? ⟨b13, 2, none⟩ = some (.slice a2 k2 c2) ∧ w'.cell? ⟨b12, 0, none⟩ = some (.bool g0) ∧ w'.cell? ⟨b12, 1, none⟩ = some (.slice a0 k0 c0) ∧ w'.cell? ⟨b12, 2, none⟩ = some (.slice a0' k0' c0')) (first | done | with_reducible exact ⟨x0, x1, x2, x3, x4, x5, x6, x7⟩ | with_reducible exact ⟨y0, y1, y2, y3, y4, y5, y6, y7⟩ | with_reducible exact ⟨by assumption, by assumption, by assumption, by assumption, by assumption, by assumption, by assumption, by assumption⟩ | fail) (first
          | ((with_reducible refine (Compare_P (RsSt.sta _ _ _ _ _) hM VDz LRz VEz LRz HBE hq3 SFd).mono ?_); rintro en wC ⟨rfl, SC⟩; obtain ⟨z0, z1, z2, z3, z4, z5, z6, z7, z8, z9⟩ := SC.out.rkd; obtain ⟨o0, o1, o2, o3, o4, o5, o6, o7⟩ := hcf.out wC SC.out.inv.fz; have hst := Lib.hid (((((SC.out.set 0 (Value.slice aT mL cT)).set 1 (Value.int .i64 (t : Int))).set 2 (Value.string S1)).set 3 (Value.string T1)).set 4 (Value.bool false)); obtain ⟨n0, n1, n2, n3, n4, n5, n6, n7⟩ := hcf.out _ hst.out.inv.fz)
          | fail)
         all_goals
          go_wp2
          have hZ := Lib.hid (((((SC.out.set 0 (Value.slice aT mL cT)).set 1 (Value.int .i64 (t : Int))).set 2 (Value.string S1)).set 3 (Value.string T1)).set 4 (Value.bool false))
          have e0 : _ = some (Value.slice aT mL cT) := hZ.out.k.cell 0
          have e1 : _ = some (Value.int .i64 (t : Int)) := hZ.out.k.cell 1
          have e2 : _ = some (Value.string S1) := hZ.out.k.cell 2
          have e3 : _ = some (Value.string T1) := hZ.out.k.cell 3
          have e4 : _ = some (Value.bool false) := hZ.out.k.cell 4
          (try simp only [Exit.inBlock, Exit.then])
          refine bodyPost_ret (v := .tuple #[.agg #[(Value.slice aT mL cT), (Value.int .i64 (t : Int)), (Value.string S1), (Value.string T1), (Value.bool false)], .int .i64 0]) (by simp [results, Tryz.results13, go_sem, e0, e1, e2, e3, e4]) rfl ?_
          have hmm := hmL.out
          subst hmm
          obtain rfl := HQ.out
          exact ⟨aT, cT, φz, rfl, hZ.out.inv, SLz.out⟩
end Go.Proofs.YtmlpjffnmkndoaaGreatDoor

namespace Go.Proofs.YtmlpjffnmkndoaaGreatDoor
open Go.RowKit
set_option linter.unusedVariables false
set_option linter.unusedSimpArgs false
/-- A row of exact numbers that stays as it is while a call runs. -/
def RowB (φ : Phi) (w : World) (a : Option Addr) (n : Nat) (ws : List Rat) (N D : Nat) : Prop :=
 0 < n → ∃ bw ow, a = some ⟨bw, ow, none⟩ ∧ ∀ j, j < n → ∃ (g : Bool) (a1 : Option Addr) (k1 c1 : Nat) (a2 : Option Addr) (k2 c2 : Nat), FrX φ (.agg #[.bool g, .slice a1 k1 c1, .slice a2 k2 c2]) (ws.getD j 0) N D ∧ ∀ W, Below w.heap.size w W → W.cell? ⟨bw, ow + j * 3, none⟩ = some (.bool g) ∧ W.cell? ⟨bw, ow + j * 3 + 1, none⟩ = some (.slice a1 k1 c1) ∧ W.cell? ⟨bw, ow + j * 3 + 2, none⟩ = some (.slice a2 k2 c2)
section
variable {φ φ' : Phi} {w W : World} {a : Option Addr} {n cap N D : Nat} {ws : List Rat}
theorem RowB.of (hf : Fz φ w) (sw : SlV φ a cap (ws.map (Rx.mk (N := N) (D := D)))) (hw : Hid (ws.length = n)) : RowB φ w a n ws N D := fun h0 => by
 obtain ⟨bw, ow, ha, fw⟩ := sw.rxD (n := n) (Lib.hid (by rw [List.length_map, hw.out])) h0
 refine ⟨bw, ow, ha, fun j hj => ?_⟩
 obtain ⟨g, a1, k1, c1, a2, k2, c2, hx, f⟩ := fw j hj
 rw [rx_getD] at hx
 exact ⟨g, a1, k1, c1, a2, k2, c2, hx, fun W hb => f W (hf.below hb)⟩
theorem RowB.below (h : RowB φ w a n ws N D) (hl : φ.le φ') (hb : Below w.heap.size w W) : RowB φ' W a n ws N D := fun h0 => by
 obtain ⟨bw, ow, ha, fw⟩ := h h0
 refine ⟨bw, ow, ha, fun j hj => ?_⟩
 obtain ⟨g, a1, k1, c1, a2, k2, c2, hx, f⟩ := fw j hj
 exact ⟨g, a1, k1, c1, a2, k2, c2, hx.mono hl, fun W' hb' => f W' (hb.trans (hb'.mono hb.size))⟩
theorem RowB.own {B : Nat} {E : TypeId} {g cg : Nat} {rs : List Raw3} (h : Own B φ w E (some ⟨g, 0, none⟩) cg rs) (hn : Hid (rs.length = n)) (hx : ∀ j, j < n → FrX φ (rs.getD j raw0).v (ws.getD j 0) N D) : RowB φ w (some ⟨g, 0, none⟩) n ws N D := fun _ => by
 refine ⟨g, 0, rfl, fun j hj => ?_⟩
 have hj2 := hx j hj
 refine ⟨(rs.getD j raw0).g, (rs.getD j raw0).a1, (rs.getD j raw0).k1, (rs.getD j raw0).c1, (rs.getD j raw0).a2, (rs.getD j raw0).k2, (rs.getD j raw0).c2, hj2, fun W hb => ?_⟩
 obtain ⟨g', e', _, _, _, p0, p1, p2, _⟩ := (h.callB hb).rawD hn hj
 cases e'
 rw [Nat.zero_add]
 exact ⟨p0, p1, p2⟩
end
set_option maxRecDepth 100000 in
set_option maxHeartbeats 4000000 in
theorem Rsums_row {M : Nat} (hD : Hid (RdivOk M)) (hM : LenB M) {N D : Nat} (hD1 : 1 ≤ D) {n : Nat} (hM1 : n * N * D ^ n ≤ M) (hM2 : D ^ n ≤ M) {nm : ByteArray} {ar : Option Addr} {nt cr mi : Nat} {al : Option Addr} {cl : Nat} {l : List Psn} {aw : Option Addr} {cw : Nat} {ws : List Rat} {w : World} {φ : Phi} (hφ : Fz φ w) (sl : SlV φ al cl l) (hn : Hid (l.length = n)) (sw : RowB φ w aw n ws N D) (hn3 : n ≤ 3000) (hnt : nt ≤ 40) (hmi : mi ≤ 8) (hc : Hid (∀ j, j < n → mi < (l.getD j psn0).2.1.length ∧ ∃ c : Nat, c < nt ∧ celI l mi j = (c : Int))) :
  Calls Tryz.prog 55 #[.agg #[.string nm, .slice ar nt cr], .int .i64 (mi : Int), .slice al n cl, .slice aw n cw] w (SlPost1 ((celR ws l mi nt n).map (Rx.mk (N := n * N * D ^ n) (D := D ^ n))) φ w) := by
 have hbd : Hid (∀ k, k < n → k * N * D ^ k * D + N * D ^ k ≤ M ∧ D ^ k * D ≤ M ∧ k * N * D ^ k * D + N * D ^ k ≤ (k + 1) * N * D ^ (k + 1) ∧ D ^ k * D = D ^ (k + 1) ∧ k * N * D ^ k ≤ (k + 1) * N * D ^ (k + 1) ∧ D ^ k ≤ D ^ (k + 1)) := Lib.hid (fun k hk =>
  ⟨Nat.le_trans (sumB_step hD1) (Nat.le_trans (sumB_mono hD1 hk) hM1), by rw [← Nat.pow_succ]; exact Nat.le_trans (powB_mono hD1 hk) hM2, sumB_step hD1, (Nat.pow_succ ..).symm, sumB_mono hD1 (Nat.le_succ k), powB_mono hD1 (Nat.le_succ k)⟩)
 have h00 : Hid ((0 : Nat) * N * D ^ 0 = 0 ∧ D ^ 0 = 1) := Lib.hid ⟨by simp, by simp⟩
 have HSL := Lib.hid sl
 have HSW := Lib.hid sw
 obtain ⟨φb, lb, ib, eb⟩ := (Inv.start hφ).frz (.cells #[.string nm, .slice ar nt cr] 30)
 have HI0 := Lib.hid ib
 have EB := Lib.hid eb
 have LB := Lib.hid lb
 have hC0 := Lib.hid (fun (ψ : Phi) W (hf : Fz ψ W) => RWhole_any (n := 0) (by decide) (by decide) hf)
 rw [show ((0 : Int) : Rat) = 0 from rfl, show (0 : Int).natAbs = 0 from rfl] at hC0
 obtain ⟨NB, hNB⟩ : ∃ x, Hid (n * N * D ^ n = x) := ⟨_, Lib.hid rfl⟩
 obtain ⟨DB, hDB⟩ : ∃ x, Hid (D ^ n = x) := ⟨_, Lib.hid rfl⟩
 rw [hNB.out, hDB.out]
 clear hφ sl sw hM1 hM2 ib eb lb
 go_enter Tryz.func55, Tryz.ntmps55
 go_upto_region 1 with fail
 generalize w.alloc (.cells #[.string nm, .slice ar nt cr] 30) = wx at *
 obtain ⟨b4, hb4⟩ : ∃ b, w.heap.size = b := ⟨_, rfl⟩
 rw [hb4] at EB
 rw [hb4]
 have HB4 := Lib.hid hb4
 clear hb4
 have hS0 : Hid (OwR w φ φb 36 none 0 ([] : List (Rx 0 1)) wx) := Lib.hid ⟨HI0.out, Own.nil _ _ _ _⟩
 have x1 : wx.cell? ⟨b4, 1, none⟩ = some (.slice ar nt cr) := box_cell EB.out φb.le_refl HI0.out.fz 1
 go_wp2
 go_loopw [9, 15] (fun ov iv wr => ∃ (k : Nat) (ao : Option Addr) (co : Nat) (os : List (Rx 0 1)) (φ' : Phi), k ≤ nt ∧ iv = .int .i64 (k : Int) ∧ ov = .slice ao k co ∧ Hid (os.length = k) ∧ Hid (∀ m, (os.getD m ⟨0⟩).x = 0) ∧ Hid (φb.le φ') ∧ Hid (OwR w φ φ' 36 ao co os wr)) (fun _ iv _ => nt - (intOf iv).toNat)
 case atStart => exact ⟨0, none, 0, [], φb, Nat.zero_le _, rfl, rfl, Lib.hid rfl, Lib.hid (fun m => rfl), Lib.hid φb.le_refl, hS0⟩
 case round =>
  clear hS0 x1
  obtain ⟨k, ao, co, os, φ', hk, rfl, rfl, hol, hz, hle, hS⟩ := hrel
  by_cases hlt : k < nt
  ·have hlti : (k : Int) < (nt : Int) := by omega
   have hnx : Hid (∀ m, ((os ++ [(⟨0⟩ : Rx 0 1)]).getD m ⟨0⟩).x = 0) := Lib.hid (fun m => by
    rw [List.getD_eq_getElem?_getD, List.getElem?_append]
    split
    ·have := hz.out m
     rwa [List.getD_eq_getElem?_getD] at this
    ·cases h : m - os.length with
     | zero => rfl
     | succ j => rfl)
   go_wp2_with (first
    | (go_at_call 37; (with_reducible refine (hC0.out φ' _ hS.out.inv.fz).mono ?_); rintro e w4 ⟨v4, φ4, rfl, hi4, hv4⟩; obtain ⟨g, a1, k1, c1, a2, k2, c2, rfl, hrep⟩ := hv4.rx; have hS4 := Lib.hid (hS.out.call hi4); have hin := Lib.hid hS4.out.inv; have hon := Lib.hid hS4.out.own; have HREP := Lib.hid hrep; have HL4 := Lib.hid (hle.out.trans hi4.le); clear hi4 hv4 hrep)
    | (at_builtin; (refine wpList_app1F (α := Rx 0 1) rfl _ _ 93 rfl (slRx _ _) hin.out ao co os hon.out #[.bool g, .slice a1 k1 c1, .slice a2 k2 c2] 36 ⟨0⟩ HREP.out (by rw [hol.out]; rfl) 1 rfl (by rw [hol.out]; omega) ?_; intro a9 c9 w9 hi9 ho9 hg9 hf9; rw [show (os ++ [(⟨0⟩ : Rx 0 1)]).length = k + 1 from by rw [List.length_append, hol.out]; rfl])))
   go_roundw
   case rel => exact ⟨k + 1, a9, c9, os ++ [⟨0⟩], φ4, by omega, by go_num, rfl, Lib.hid (by rw [List.length_append, hol.out]; rfl), hnx, HL4, Lib.hid ⟨hi9, ho9⟩⟩
   case measure => (simp [intOf] <;> omega)
  ·obtain rfl : k = nt := by omega
   obtain ⟨rs, hrl, hor, hrx⟩ := hS.out.own.rawR
   have hrn : Hid (rs.length = k) := Lib.hid (by rw [hrl, hol.out])
   have hR0 : Hid (∀ c, c < k → FrX φ' (rs.getD c raw0).v (celQ (fun j => ws.getD j 0) l mi (c : Int) 0) (0 * N * D ^ 0) (D ^ 0)) := Lib.hid (fun c hc => by
    rw [h00.out.1, h00.out.2]
    have := hrx c (by rw [hrn.out]; exact hc)
    rw [hz.out c] at this
    exact this)
   have hS2 : Hid (OwR w φ φ' 36 ao co rs wr) := Lib.hid ⟨hS.out.inv, hor⟩
   clear hrl hor hrx hS hz hol hC0 h00
   go_wp2
   go_loopw [24] (fun iv wr => ∃ (j : Nat) (rs : List Raw3) (φ'' : Phi), j ≤ n ∧ iv = .int .i64 (j : Int) ∧ Hid (rs.length = k) ∧ Hid (OwR w φ φ'' 36 ao co rs wr) ∧ Hid (∀ c, c < k → FrX φ'' (rs.getD c raw0).v (celQ (fun j => ws.getD j 0) l mi (c : Int) j) (j * N * D ^ j) (D ^ j))) (fun iv _ => n - (intOf iv).toNat)
   case atStart => exact ⟨0, rs, φ', Nat.zero_le _, rfl, hrn, hS2, hR0⟩
   case round =>
    clear hS2 hrn hR0 hle
    obtain ⟨j, rs, φ'', hj, rfl, hrn, hS, hR⟩ := hrel
    by_cases hjl : j < n
    ·have hjli : (j : Int) < (n : Int) := by omega
     obtain ⟨b, off, rfl, fp⟩ := HSL.out.psnsD hn hjl
     obtain ⟨ac, cc, sc, f2⟩ := fp j hjl
     obtain ⟨d0, d1, d2, d3, d4, d5⟩ := f2 wr (hS.out.inv.fz.sub hS.out.inv.le)
     obtain ⟨hml', ct, hct, hce⟩ := hc.out j hjl
     unfold celI at hce
     have hce2 : Hid (celI l mi j = (ct : Int)) := Lib.hid hce
     generalize l.getD j psn0 = p at *
     obtain ⟨⟨s, t⟩, cs, x, y, z⟩ := p
     dsimp only at d0 d1 d2 d3 d4 d5 sc hce hml'
     obtain ⟨mc, hmc⟩ : ∃ m, cs.length = m := ⟨_, rfl⟩
     rw [hmc] at d2 hml'
     have hcn := Lib.hid hmc
     have hmcc : mc ≤ 9223372036854775807 := by have h1 := sc.capn; have h2 := sc.capm; rw [hmc] at h1; unfold maxLen at h2; omega
     obtain ⟨bc, oc, rfl, fc⟩ := sc.intsD hcn hml'
     have FC := Lib.hid (fc mi hml')
     rw [hce] at FC
     obtain ⟨bw, ow, rfl, fw⟩ := HSW.out (by omega)
     obtain ⟨g6, a6, k6, c6, a7, k7, c7, hx, f6⟩ := fw j hjl
     have F6 := Lib.hid f6
     obtain ⟨φp, lp, ip, ep⟩ := (Inv.start hS.out.inv.fz).frz (.cells #[.string s, .string t, .slice (some ⟨bc, oc, none⟩) mc cc, .int .i64 x, .int .i64 y, .int .i64 z] 76)
     have hS1 := Lib.hid (hS.out.call ip)
     have LP := Lib.hid lp
     have EP := Lib.hid ep
     have HX := Lib.hid ((hx.mono hS.out.inv.le).mono lp)
     have HB := Lib.hid (hbd.out j hjl)
     have hmii : (mi : Int) < (mc : Int) := by omega
     have hcti : (ct : Int) < (k : Int) := by omega
     have hR1 := Lib.hid (hR.out ct hct)
     have hRn : Hid (∀ (ψ : Phi) (y : Raw3), φ''.le ψ → FrX ψ y.v (celQ (fun j => ws.getD j 0) l mi (ct : Int) j + ws.getD j 0) ((j + 1) * N * D ^ (j + 1)) (D ^ (j + 1)) → ∀ c, c < k → FrX ψ ((rs.set ct y).getD c raw0).v (celQ (fun j => ws.getD j 0) l mi (c : Int) (j + 1)) ((j + 1) * N * D ^ (j + 1)) (D ^ (j + 1))) := Lib.hid (fun ψ y hl hy c hcc => by
      by_cases e : c = ct
      ·subst e
       rw [raw_setS (by rw [hrn.out]; exact hcc), celQ_yes hce2.out]
       exact hy
      ·rw [raw_setN e, celQ_no (by rw [hce2.out]; omega)]
       exact ((hR.out c hcc).mono hl).le HB.out.2.2.2.2.1 HB.out.2.2.2.2.2)
     clear fp f2 hmc fc fw hx f6 ip ep lp hS hR hce hce2
     go_upto_region 9 with fail
     generalize wr.alloc (.cells #[.string s, .string t, .slice (some ⟨bc, oc, none⟩) mc cc, .int .i64 x, .int .i64 y, .int .i64 z] 76) = wz at *
     generalize wr.heap.size = b5 at *
     clear d0 d1 d2 d3 d4 d5
     have HSd : Hid (OwR w φ φp 36 ao co rs wz.drew) := Lib.hid (hS1.out.callB (bdrewN (Below.refl _ wz) 1))
     have hfz := Lib.hid (fun (ψ : Phi) (W : World) (hs : Inv w.heap.size w φ ψ W) (hl : φp.le ψ) => (⟨box_cell EP.out hl hs.fz 2, (FC.out W (hs.fz.sub hs.le)).2, F6.out W hs.bel⟩ : W.cell? ⟨b5, 2, none⟩ = some (.slice (some ⟨bc, oc, none⟩) mc cc) ∧ W.cell? ⟨bc, oc + mi, none⟩ = some (.int .i64 (ct : Int)) ∧ W.cell? ⟨bw, ow + j * 3, none⟩ = some (.bool g6) ∧ W.cell? ⟨bw, ow + j * 3 + 1, none⟩ = some (.slice a6 k6 c6) ∧ W.cell? ⟨bw, ow + j * 3 + 2, none⟩ = some (.slice a7 k7 c7)))
     obtain ⟨go, hgo, -, -, -, o0, o1, o2, -, -⟩ := HSd.out.own.rawD hrn hct
     have HRW := Lib.hid (fun (ψ : Phi) (W : World) (h : Own w.heap.size ψ W 36 ao co rs) => h.rawD hrn hct)
     subst hgo
     generalize rs.getD ct raw0 = ry at *
     obtain ⟨gz, az, kz, cz, az', kz', cz'⟩ := ry
     dsimp only at o0 o1 o2 HRW
     have HV : Hid (FrX φp (.agg #[.bool gz, .slice az kz cz, .slice az' kz' cz']) (celQ (fun j => ws.getD j 0) l mi (ct : Int) j) (j * N * D ^ j) (D ^ j)) := Lib.hid (hR1.out.mono LP.out)
     have hs0 := hfz.out φp wz.drew HSd.out.inv φp.le_refl
     apply wp_region_held_drew (S := fun W => W.cell? ⟨b5, 2, none⟩ = some (.slice (some ⟨bc, oc, none⟩) mc cc) ∧ W.cell? ⟨bc, oc + mi, none⟩ = some (.int .i64 (ct : Int)) ∧ W.cell? ⟨bw, ow + j * 3, none⟩ = some (.bool g6) ∧ W.cell? ⟨bw, ow + j * 3 + 1, none⟩ = some (.slice a6 k6 c6) ∧ W.cell? ⟨bw, ow + j * 3 + 2, none⟩ = some (.slice a7 k7 c7)) (by kernel_rfl)
     case hS => exact hs0
     case h =>
      intro hHeld
      refine' wpAnyH_take (i := 0) ?hi (by kernel_rfl) (by kernel_rfl) (by kernel_rfl) ?hQ (Or.inl ⟨?hw, ?hy⟩) (by assumption) ?rest
      case hi => exact List.getElem?_toArray.trans rfl
      case hQ => exact fun _ _ _ h => h
      case hw => rfl
      case hy => ((intro w hSw; (try dsimp only at hSw); go_simp) <;> with_reducible rfl)
      case rest =>
      try simp only [Act.put, List.setIfInBounds_toArray, List.set_cons_zero, List.set_cons_succ]
      refine' wpAnyH_take (i := 1) ?hi (by kernel_rfl) (by kernel_rfl) (by kernel_rfl) ?hQ (Or.inl ⟨?hw, ?hy⟩) (by assumption) ?rest
      case hi => exact List.getElem?_toArray.trans rfl
      case hQ => exact fun _ _ _ h => h
      case hw => rfl
      case hy => ((intro w hSw; (try dsimp only at hSw); go_simp) <;> with_reducible rfl)
      case rest =>
      try simp only [Act.put, List.setIfInBounds_toArray, List.set_cons_zero, List.set_cons_succ]
      refine' wpAnyH_take (i := 2) ?hi (by kernel_rfl) (by kernel_rfl) (by kernel_rfl) ?hQ (Or.inl ⟨?hw, ?hy⟩) (by assumption) ?rest
      case hi => exact List.getElem?_toArray.trans rfl
      case hQ => exact fun _ _ _ h => h
      case hw => rfl
      case hy => ((intro w hSw; (try dsimp only at hSw); go_simp) <;> with_reducible rfl)
      case rest =>
      try simp only [Act.put, List.setIfInBounds_toArray, List.set_cons_zero, List.set_cons_succ]
      refine' wpAnyH_take (i := 3) ?hi (by kernel_rfl) (by kernel_rfl) (by kernel_rfl) ?hQ (Or.inl ⟨?hw, ?hy⟩) (by assumption) ?rest
      case hi => exact List.getElem?_toArray.trans rfl
      case hQ => exact fun _ _ _ h => h
      case hw => rfl
      case hy => ((intro w hSw; (try dsimp only at hSw); go_simp) <;> with_reducible rfl)
      case rest =>
      try simp only [Act.put, List.setIfInBounds_toArray, List.set_cons_zero, List.set_cons_succ]
      refine' wpAnyH_take (i := 4) ?hi (by kernel_rfl) (by kernel_rfl) (by kernel_rfl) ?hQ (Or.inl ⟨?hw, ?hy⟩) (by assumption) ?rest
      case hi => exact List.getElem?_toArray.trans rfl
      case hQ => exact fun _ _ _ h => h
      case hw => rfl
      case hy => ((intro w hSw; (try dsimp only at hSw); go_simp) <;> with_reducible rfl)
      case rest =>
      try simp only [Act.put, List.setIfInBounds_toArray, List.set_cons_zero, List.set_cons_succ]
      refine' wpAnyH_take (i := 5) ?hi (by kernel_rfl) (by kernel_rfl) (by kernel_rfl) ?hQ (Or.inl ⟨?hw, ?hy⟩) (by assumption) ?rest
      case hi => exact List.getElem?_toArray.trans rfl
      case hQ => exact fun _ _ _ h => h
      case hw => rfl
      case hy => ((intro w hSw; (try dsimp only at hSw); go_simp) <;> with_reducible rfl)
      case rest =>
      try simp only [Act.put, List.setIfInBounds_toArray, List.set_cons_zero, List.set_cons_succ]
      refine' wpAnyH_take (i := 6) ?hi (by kernel_rfl) (by kernel_rfl) (by kernel_rfl) ?hQ (Or.inl ⟨?hw, ?hy⟩) (by assumption) ?rest
      case hi => exact List.getElem?_toArray.trans rfl
      case hQ => exact fun _ _ _ h => h
      case hw => rfl
      case hy => ((intro w hSw; (try dsimp only at hSw); go_simp) <;> with_reducible rfl)
      case rest =>
      try simp only [Act.put, List.setIfInBounds_toArray, List.set_cons_zero, List.set_cons_succ]
      refine' wpAnyH_take (i := 7) ?hi (by kernel_rfl) (by kernel_rfl) (by kernel_rfl) ?hQ (Or.inl ⟨?hw, ?hy⟩) (by assumption) ?rest
      case hi => exact List.getElem?_toArray.trans rfl
      case hQ => exact fun _ _ _ h => h
      case hw => rfl
      case hy => ((intro w hSw; (try dsimp only at hSw); go_simp) <;> with_reducible rfl)
      case rest =>
      try simp only [Act.put, List.setIfInBounds_toArray, List.set_cons_zero, List.set_cons_succ]
      refine' wpAnyH_take (i := 8) ?hi (by kernel_rfl) (by kernel_rfl) (by kernel_rfl) ?hQ (Or.inl ⟨?hw, ?hy⟩) (by assumption) ?rest
      case hi => exact List.getElem?_toArray.trans rfl
      case hQ => exact fun _ _ _ h => h
      case hw => rfl
      case hy => ((intro w hSw; (try dsimp only at hSw); go_simp) <;> with_reducible rfl)
      case rest =>
      try simp only [Act.put, List.setIfInBounds_toArray, List.set_cons_zero, List.set_cons_succ]
      refine' wpAnyH_take (i := 9) ?hi (by kernel_rfl) (by kernel_rfl) (by kernel_rfl) ?hQ (Or.inl ⟨?hw, ?hy⟩) (by assumption) ?rest
      case hi => exact List.getElem?_toArray.trans rfl
      case hQ => exact fun _ _ _ h => h
      case hw => rfl
      case hy => ((intro w hSw; (try dsimp only at hSw); go_simp) <;> with_reducible rfl)
      case rest =>
      try simp only [Act.put, List.setIfInBounds_toArray, List.set_cons_zero, List.set_cons_succ]
      refine' wpAnyH_take (i := 10) ?hi (by kernel_rfl) (by kernel_rfl) (by kernel_rfl) ?hQ (Or.inl ⟨?hw, ?hy⟩) (by assumption) ?rest
      case hi => exact List.getElem?_toArray.trans rfl
      case hQ => exact fun _ _ _ h => h
      case hw => rfl
      case hy => ((intro w hSw; (try dsimp only at hSw); go_simp) <;> with_reducible rfl)
      case rest =>
      try simp only [Act.put, List.setIfInBounds_toArray, List.set_cons_zero, List.set_cons_succ]
      refine' wpAnyH_take (i := 11) ?hi (by kernel_rfl) (by kernel_rfl) (by kernel_rfl) ?hQ (Or.inl ⟨?hw, ?hy⟩) (by assumption) ?rest
      case hi => exact List.getElem?_toArray.trans rfl
      case hQ => exact fun _ _ _ h => h
      case hw => rfl
      case hy => ((intro w hSw; (try dsimp only at hSw); go_simp) <;> with_reducible rfl)
      case rest =>
      try simp only [Act.put, List.setIfInBounds_toArray, List.set_cons_zero, List.set_cons_succ]
      refine' wpAnyH_take (i := 12) ?hi (by kernel_rfl) (by kernel_rfl) (by kernel_rfl) ?hQ (Or.inl ⟨?hw, ?hy⟩) (by assumption) ?rest
      case hi => exact List.getElem?_toArray.trans rfl
      case hQ => exact fun _ _ _ h => h
      case hw => rfl
      case hy => ((intro w hSw; (try dsimp only at hSw); go_simp) <;> with_reducible rfl)
      case rest =>
      try simp only [Act.put, List.setIfInBounds_toArray, List.set_cons_zero, List.set_cons_succ]
      refine' wpAnyH_take (i := 14) ?hi (by kernel_rfl) (by kernel_rfl) (by kernel_rfl) ?hQ (Or.inl ⟨?hw, ?hy⟩) (by assumption) ?rest
      case hi => exact List.getElem?_toArray.trans rfl
      case hQ => exact fun _ _ _ h => h
      case hw => rfl
      case hy => ((intro w hSw; (try dsimp only at hSw); go_simp) <;> with_reducible rfl)
      case rest =>
      try simp only [Act.put, List.setIfInBounds_toArray, List.set_cons_zero, List.set_cons_succ]
      refine' wpAnyH_take (i := 15) ?hi (by kernel_rfl) (by kernel_rfl) (by kernel_rfl) ?hQ (Or.inl ⟨?hw, ?hy⟩) (by assumption) ?rest
      case hi => exact List.getElem?_toArray.trans rfl
      case hQ => exact fun _ _ _ h => h
      case hw => rfl
      case hy => ((intro w hSw; (try dsimp only at hSw); go_simp) <;> with_reducible rfl)
      case rest =>
      try simp only [Act.put, List.setIfInBounds_toArray, List.set_cons_zero, List.set_cons_succ]
      refine' wpAnyH_take (i := 16) ?hi (by kernel_rfl) (by kernel_rfl) (by kernel_rfl) ?hQ (Or.inl ⟨?hw, ?hy⟩) (by assumption) ?rest
      case hi => exact List.getElem?_toArray.trans rfl
      case hQ => exact fun _ _ _ h => h
      case hw => rfl
      case hy => ((intro w hSw; (try dsimp only at hSw); go_simp) <;> with_reducible rfl)
      case rest =>
      try simp only [Act.put, List.setIfInBounds_toArray, List.set_cons_zero, List.set_cons_succ]
      refine' wpAnyH_take (i := 17) ?hi (by kernel_rfl) (by kernel_rfl) (by kernel_rfl) ?hQ (Or.inl ⟨?hw, ?hy⟩) (by assumption) ?rest
      case hi => exact List.getElem?_toArray.trans rfl
      case hQ => exact fun _ _ _ h => h
      case hw => rfl
      case hy => ((intro w hSw; (try dsimp only at hSw); go_simp) <;> with_reducible rfl)
      case rest =>
      try simp only [Act.put, List.setIfInBounds_toArray, List.set_cons_zero, List.set_cons_succ]
      refine wpAnyH_ready (rs := [13]) (by kernel_rfl) (by simp) ?_
      refine' AllReadyH.cons ?ho (fun K hK => ?st) AllReadyH.nil
      case ho => exact List.getElem?_toArray.trans rfl
      case st =>
      go_simp
      refine hK.out _ _ (by exact hs0) (fun hHeld => ?_)
      clear hK K
      try simp only [Act.put, List.setIfInBounds_toArray, List.set_cons_zero, List.set_cons_succ]
      refine wpAnyH_ready (rs := [18]) (by kernel_rfl) (by simp) ?_
      refine' AllReadyH.cons ?ho (fun K hK => ?st) AllReadyH.nil
      case ho => exact List.getElem?_toArray.trans rfl
      case st =>
      go_simp
      go_at_call 38
      (with_reducible refine (RPlus_any hD hM HSd.out.inv.fz HV.out HX.out HB.out.1 HB.out.2.1).mono ?_)
      rintro e w8 ⟨v8, φ8, rfl, hi8, hv8⟩
      have hv8 := hv8.le HB.out.2.2.1 (Nat.le_of_eq HB.out.2.2.2.1)
      obtain ⟨g8, n8, m8, k8, k9, a8, c8, a9, c9, rfl, _⟩ := hv8.open
      have S8 := Lib.hid (HSd.out.call hi8)
      have V8 := Lib.hid hv8
      have L8 := Lib.hid (LP.out.trans hi8.le)
      have LQ := Lib.hid hi8.le
      have hs8 := hfz.out φ8 w8 S8.out.inv LQ.out
      clear hi8 hv8
      dsimp only
      refine hK.out _ _ (by exact hs8) (fun hHeld => ?_)
      clear hK K
      try simp only [Act.put, List.setIfInBounds_toArray, List.set_cons_zero, List.set_cons_succ]
      refine' wpAnyH_take (i := 19) ?hi (by kernel_rfl) (by kernel_rfl) (by kernel_rfl) ?hQ (Or.inl ⟨?hw, ?hy⟩) (by assumption) ?rest
      case hi => exact List.getElem?_toArray.trans rfl
      case hQ => exact fun _ _ _ h => h
      case hw => rfl
      case hy => ((intro w hSw; (try dsimp only at hSw); go_simp) <;> with_reducible rfl)
      case rest =>
      try simp only [Act.put, List.setIfInBounds_toArray, List.set_cons_zero, List.set_cons_succ]
      obtain ⟨go', hgo', -, -, -, e0, e1, e2, ef, hset⟩ := HRW.out φ8 w8 S8.out.own
      cases hgo'
      obtain ⟨r0, r1, r2⟩ := (⟨ef _, ef _, ef _⟩ : w8.frozen? ⟨go, ct * 3, none⟩ = false ∧ w8.frozen? ⟨go, ct * 3 + 1, none⟩ = false ∧ w8.frozen? ⟨go, ct * 3 + 2, none⟩ = false)
      have hst := Lib.hid (hset ⟨g8, a8, k8, c8, a9, k9, c9⟩ w φ S8.out.inv)
      clear hset ef
      refine wpAnyH_ready (rs := [20]) (by kernel_rfl) (by simp) ?_
      refine' AllReadyH.cons ?ho (fun K hK => ?st) AllReadyH.nil
      case ho => exact List.getElem?_toArray.trans rfl
      case st =>
      go_simp
      refine hK.out _ _ (by exact hfz.out φ8 _ hst.out.2 (LQ.out)) (fun hHeld => ?_)
      clear hK K
      try simp only [Act.put, List.setIfInBounds_toArray, List.set_cons_zero, List.set_cons_succ]
      refine wpAnyH_done (by kernel_rfl) ?_ _
      have HN : Hid (OwR w φ φ8 36 (some ⟨go, 0, none⟩) co (rs.set ct ⟨g8, a8, k8, c8, a9, k9, c9⟩) (((w8.setCell ⟨go, ct * 3, none⟩ (.bool g8)).setCell ⟨go, ct * 3 + 1, none⟩ (.slice a8 k8 c8)).setCell ⟨go, ct * 3 + 2, none⟩ (.slice a9 k9 c9))) := Lib.hid ⟨hst.out.2, hst.out.1⟩
      have HRN := Lib.hid (hRn.out φ8 ⟨g8, a8, k8, c8, a9, k9, c9⟩ L8.out V8.out)
      clear e0 e1 e2 r0 r1 r2 o0 o1 o2 hst hRn hfz hs0 hs8 HRW
      go_wp2
      go_roundw
      case rel => exact ⟨j + 1, rs.set ct ⟨g8, a8, k8, c8, a9, k9, c9⟩, φ8, by omega, by go_num, Lib.hid (by rw [List.length_set, hrn.out]), HN, HRN⟩
      case measure => (simp [intOf] <;> omega)
    ·obtain rfl : j = n := by omega
     have hx := hR.out
     rw [hNB.out, hDB.out] at hx
     have hlc : rs.length = (celR ws l mi k j).length := by rw [hrn.out]; simp [celR]
     have ho := hS.out.own.rxs (N := NB) (D := DB) hlc (fun m hm => by
      have hm' : m < k := by rw [← hrn.out]; exact hm
      rw [celR_get hm']
      exact hx m hm')
     obtain ⟨φ2, hl2, hi2, hs2, _⟩ := ho.release hS.out.inv
     have HI2 := Lib.hid hi2
     have HS2 := Lib.hid hs2
     have hlen : Hid (((celR ws l mi k j).map (Rx.mk (N := NB) (D := DB))).length = k) := Lib.hid (by simp [celR])
     clear hi2 hs2 hS hl2 ho hx hlc
     go_wp2
     go_ret
     exact ⟨ao, co, φ2, (by rw [hlen.out]; rfl), HI2.out, HS2.out⟩
end Go.Proofs.YtmlpjffnmkndoaaGreatDoor

namespace Go.Proofs.YtmlpjffnmkndoaaGreatDoor
open Go.RowKit
set_option linter.unusedVariables false
set_option linter.unusedSimpArgs false
theorem RBelow_P {P : Phi → World → Prop} (hP : Sta P) {v : Value} {x : Rat} {N D : Nat} {φ ψ : Phi} {W : World} (h1 : Hid (FrX ψ v x N D)) (hl : Hid (ψ.le φ)) {b : Bool} (hb : Hid (decide (x < 0) = b)) (hS : Hid (P φ W)) :
  Calls Tryz.prog 16 #[v] W (fun e w' => e = .returned (.bool b) ∧ Hid (P φ w')) :=
 (RBelow_any (hP.fz hS.out) (h1.out.mono hl.out) hb).mono (fun en w' hp => ⟨hp.1, Lib.hid (hP.callB hS.out hp.2)⟩)
set_option maxRecDepth 100000 in
set_option maxHeartbeats 4000000 in
theorem Rdistance_any {M : Nat} (hD : Hid (RdivOk M)) (hM : LenB M) {N : Nat} (hN : Hid (N = 1000000000000)) (hN1 : 1 ≤ N) {n : Nat} (hB : Hid (RkB M N n)) {m : List Mgn} {nm cm : Nat} {a0 : Option Addr} {al : Option Addr} {cl : Nat} {l : List Psn} {aw : Option Addr} {cw : Nat} {ws : List Rat} {w : World} {φ : Phi} (hφ : Fz φ w) (sm : SlV φ a0 cm m) (hnm : Hid (m.length = nm)) (hnm8 : nm ≤ 8) (hnt40 : Hid (∀ i, i < nm → (m.getD i mgn0).2.length ≤ 40)) (hT : Hid (∀ i, i < nm → ∀ r ∈ (m.getD i mgn0).2, shoF r.1 r.2 = 0)) (sl : SlV φ al cl l) (hn : Hid (l.length = n)) (sw : RowB φ w aw n ws (N * N) N) (hn3 : n ≤ 3000) (hc : Hid (∀ i, i < nm → ∀ j, j < n → i < (l.getD j psn0).2.1.length ∧ ∃ c : Nat, c < (m.getD i mgn0).2.length ∧ celI l i j = (c : Int))) :
  Calls Tryz.prog 73 #[.slice a0 nm cm, .slice al n cl, .slice aw n cw] w (FrXP (dsM ws m l n nm) (n * (N * N) * N ^ n * N + N * N ^ n) (N ^ n * N) φ w) := by
 have HSM := Lib.hid sm
 have HCS := Lib.hid (fun (k : Nat) (hk : k < nm) (nk : ByteArray) (ar : Option Addr) (cr nt : Nat) (hnt9 : Hid ((m.getD k mgn0).2.length = nt)) (ψ : Phi) (W : World) (hf : Fz ψ W) (hl : φ.le ψ) (hb : Below w.heap.size w W) => Rsums_row (nm := nk) (ar := ar) (cr := cr) (nt := nt) (mi := k) (cw := cw) hD hM hN1 hB.out.f.c1 hB.out.f.c2 hf (sl.mono hl) hn (sw.below hl hb) hn3 (by rw [← hnt9.out]; exact hnt40.out k hk) (by omega : k ≤ 8) (Lib.hid (fun j hj => by rw [← hnt9.out]; exact hc.out k hk j hj)))
 have hnml : nm ≤ 9223372036854775807 := by omega
 have hRS := Lib.hid (RsSt.start (Inv.start hφ) #[.bool false, .slice none 0 0, .slice none 0 0] 36)
 obtain ⟨⟨h1, h2, _, _, _, _, _, _, _, _⟩, _, _, h3, h4, h5, h6, _, _, _, _⟩ := hB.out
 obtain ⟨NB, hNB⟩ : ∃ x, n * (N * N) * N ^ n = x := ⟨_, rfl⟩
 obtain ⟨DB, hDB⟩ : ∃ x, N ^ n = x := ⟨_, rfl⟩
 have hDB1 : 1 ≤ DB := by rw [← hDB]; exact Nat.pow_pos hN1
 rw [hNB, hDB] at HCS ⊢
 rw [hNB] at h3 h5
 rw [hDB] at h3 h4 h5 h6
 obtain ⟨ND, hND⟩ : ∃ x, NB * N + N * DB = x := ⟨_, rfl⟩
 obtain ⟨DD, hDD⟩ : ∃ x, DB * N = x := ⟨_, rfl⟩
 have hDD1 : 1 ≤ DD := by rw [← hDD]; exact Nat.mul_pos hDB1 hN1
 have HBM := Lib.hid (And.intro h3 h4)
 have HMR : Hid (NB * N + N * DB ≤ ND ∧ DB * N ≤ DD) := Lib.hid ⟨Nat.le_of_eq hND, Nat.le_of_eq hDD⟩
 rw [hND, hDD] at h5 ⊢
 rw [hDD] at h6
 have HBC := Lib.hid (And.intro h5 h6)
 have hC0 := Lib.hid (fun (ψ : Phi) W (hf : Fz ψ W) => RWhole_any (n := 0) (by decide) (by decide) hf)
 rw [show ((0 : Int) : Rat) = 0 from rfl, show (0 : Int).natAbs = 0 from rfl] at hC0
 clear hφ sm sl sw h1 h2 h3 h4 h5 h6 hND hDD hNB hDB
 go_enter Tryz.func73, Tryz.ntmps73
 go_upto_region 1 with fail
 generalize w.alloc (.cells #[.bool false, .slice none 0 0, .slice none 0 0] 36) = wx at *
 obtain ⟨b2, hb2⟩ : ∃ b, w.heap.size = b := ⟨_, rfl⟩
 rw [hb2] at hRS ⊢
 have HB2 := Lib.hid hb2
 clear hb2
 go_upto_region 2 with (go_at_call 37; (with_reducible refine (hC0.out φ _ hRS.out.inv.fz).mono ?_); rintro e w4 ⟨v4, φ4, rfl, hi4, hv4⟩; obtain ⟨g4, n4, m4, k4, k5, a4, c4, a5, c5, rfl, _⟩ := hv4.open; have hR4 := hRS.out.call hi4; have hS4 := Lib.hid (SmS.mk (hR4.callB ((Below.refl _ _).alloc (Nat.le_refl _) (.cells #[.bool g4, .slice a4 k4 c4, .slice a5 k5 c5] 36))) (RsSt.start hR4.inv #[.bool g4, .slice a4 k4 c4, .slice a5 k5 c5] 36) (by have := hR4.k.lt; omega)); have HV4 := Lib.hid (hv4.le (Nat.zero_le ND) hDD1); have L4 := Lib.hid hi4.le; clear hi4 hv4 hR4)
 generalize w4.alloc (.cells #[.bool g4, .slice a4 k4 c4, .slice a5 k5 c5] 36) = wb at *
 generalize w4.heap.size = b3 at *
 clear hRS hC0
 go_wp2
 go_loopw [16] (fun iv wr => ∃ (k : Nat) (φ' : Phi) (g : Bool) (a1 : Option Addr) (k1 c1 : Nat) (a2 : Option Addr) (k2 c2 : Nat), k ≤ nm ∧ iv = .int .i64 (k : Int) ∧ Hid (SmS 36 w φ φ' b2 b3 #[.bool g, .slice a1 k1 c1, .slice a2 k2 c2] wr) ∧ Hid (FrX φ' (.agg #[.bool g, .slice a1 k1 c1, .slice a2 k2 c2]) (dsM ws m l n k) ND DD)) (fun iv _ => nm - (intOf iv).toNat)
 case atStart => exact ⟨0, φ4, g4, a4, k4, c4, a5, k5, c5, Nat.zero_le _, rfl, hS4, HV4⟩
 case round =>
  clear hS4 HV4
  obtain ⟨i, φ', g1, a1, k1, c1, a2, k2, c2, hi, rfl, hS, hV⟩ := hrel
  by_cases hil : i < nm
  ·have hili : (i : Int) < (nm : Int) := by omega
   obtain ⟨bm, om, hbm, fm⟩ := HSM.out.mgnsD hnm hil
   obtain ⟨ar, cr, sr, f1⟩ := fm i hil
   obtain ⟨d0, d1⟩ := f1 wr (hS.out.s.inv.fz.sub hS.out.s.inv.le)
   obtain ⟨nt, hnt9⟩ : ∃ x, Hid ((m.getD i mgn0).2.length = x) := ⟨_, Lib.hid rfl⟩
   rw [hnt9.out] at d1
   have hnt : nt ≤ 40 := by rw [← hnt9.out]; exact hnt40.out i hil
   have hTi := Lib.hid (hT.out i hil)
   have hC := Lib.hid (HCS.out i hil (m.getD i mgn0).1 ar cr nt hnt9)
   have hdM : Hid (dsM ws m l n (i + 1) = dsC (fun (c : Nat) => celQ (fun j => ws.getD j 0) l i (c : Int) n) (m.getD i mgn0).2 nt (dsM ws m l n i)) := Lib.hid (by rw [← hnt9.out]; rfl)
   cases hbm
   generalize (m.getD i mgn0).1 = nk at *
   obtain ⟨T, hTT⟩ : ∃ T, (m.getD i mgn0).2 = T := ⟨_, rfl⟩
   rw [hTT] at hnt9 hTi sr hdM
   obtain ⟨s, hs⟩ : ∃ s : Nat → Rat, s = fun (c : Nat) => celQ (fun j => ws.getD j 0) l i (c : Int) n := ⟨_, rfl⟩
   rw [← hs] at hdM
   have hS_ : Hid (∀ c, c < nt → (celR ws l i nt n).getD c 0 = s c) := Lib.hid (fun c h => by rw [hs]; exact celR_get h)
   obtain ⟨φp, lp, ip, ep⟩ := (Inv.start hS.out.s.inv.fz).frz (.cells #[.string nk, .slice ar nt cr] 30)
   have hS1 := Lib.hid (hS.out.call ip)
   have HV1 := Lib.hid (hV.out.mono lp)
   have EP := Lib.hid ep
   have SR := Lib.hid (sr.mono hS1.out.s.inv.le)
   have hsl : Hid (((celR ws l i nt n).map (Rx.mk (N := NB) (D := DB))).length = nt) := Lib.hid (by simp [celR])
   clear fm f1 sr hTT hs ip ep lp hS hV
   go_upto_region 5 with fail
   generalize wr.alloc (.cells #[.string nk, .slice ar nt cr] 30) = wz at *
   generalize wr.heap.size = b5 at *
   clear d0 d1
   have xm0 : wz.cell? ⟨b5, 0, none⟩ = some (.string nk) := box_cell EP.out φp.le_refl hS1.out.s.inv.fz 0
   have xm1 : wz.cell? ⟨b5, 1, none⟩ = some (.slice ar nt cr) := box_cell EP.out φp.le_refl hS1.out.s.inv.fz 1
   go_upto_region 6 with (go_at_call 55; (with_reducible refine (hC.out _ _ hS1.out.s.inv.fz hS1.out.s.inv.le hS1.out.s.inv.bel).mono ?_); rintro e w5 ⟨a8, c8, φ5, rfl, hi5, s5⟩; rw [hsl.out]; have hS5 := Lib.hid (hS1.out.call hi5); have HV5 := Lib.hid (HV1.out.mono hi5.le); have EP5 := Lib.hid (hi5.le _ _ EP.out); have SS := Lib.hid s5; have SR5 := Lib.hid (SR.out.mono hi5.le); clear hi5 s5)
   clear xm0 xm1
   have HD0 : Hid (FrX φ5 (.agg #[.bool g1, .slice a1 k1 c1, .slice a2 k2 c2]) (dsC s T 0 (dsM ws m l n i)) ND DD) := HV5
   clear hS1 HV1 EP SR HV5
   go_loopw [27] (fun iv wr => ∃ (k : Nat) (φ' : Phi) (g : Bool) (a1 : Option Addr) (k1 c1 : Nat) (a2 : Option Addr) (k2 c2 : Nat), k ≤ nt ∧ iv = .int .i64 (k : Int) ∧ Hid (φ5.le φ') ∧ Hid (SmS 36 w φ φ' b2 b3 #[.bool g, .slice a1 k1 c1, .slice a2 k2 c2] wr) ∧ Hid (FrX φ' (.agg #[.bool g, .slice a1 k1 c1, .slice a2 k2 c2]) (dsC s T k (dsM ws m l n i)) ND DD)) (fun iv _ => nt - (intOf iv).toNat)
   case atStart => exact ⟨0, φ5, g1, a1, k1, c1, a2, k2, c2, Nat.zero_le _, rfl, Lib.hid φ5.le_refl, hS5, HD0⟩
   case round =>
    clear hS5 HD0
    obtain ⟨k, φ', g1, a1, k1, c1, a2, k2, c2, hk, rfl, hle, hS, hV⟩ := hrel
    by_cases hlt : k < nt
    ·have hlti : (k : Int) < (nt : Int) := by omega
     obtain ⟨bs, os_, rfl, fs⟩ := SS.out.rxD hsl hlt
     obtain ⟨g6, a6, k6, c6, a7, k7, c7, hx, f6⟩ := fs k hlt
     rw [rx_getD, hS_.out k hlt] at hx
     obtain ⟨e0, e1, e2⟩ := f6 wr (hS.out.s.inv.fz.sub hle.out)
     obtain ⟨bt, ot, rfl, ft⟩ := SR5.out.rtisD hnt9 hlt
     have FT := Lib.hid (ft k hlt)
     have hm : T.getD k rti0 ∈ T := by rw [getD_elem0 _ _ _ (by rw [hnt9.out]; exact hlt)]; exact List.getElem_mem _
     have hg2 := hTi.out _ hm
     have htq : ttQ T k = ratX (T.getD k rti0).1 (T.getD k rti0).2 := rfl
     generalize T.getD k rti0 = p at *
     obtain ⟨s1, t1⟩ := p
     dsimp only at hg2 htq FT
     have hrf := Lib.hid (ratF_ok (shoF_ok hg2).1)
     have hbd : Hid (dV (bodyB s1).data.toList ≤ N ∧ dV t1.data.toList ≤ N) := Lib.hid (by rw [hN.out]; exact sho_lt hg2)
     have hxt : Hid (ratX s1 t1 = ttQ T k) := Lib.hid htq.symm
     obtain ⟨φp, lp, ip, ep⟩ := (Inv.start hS.out.s.inv.fz).frz (.cells #[.bool g6, .slice a6 k6 c6, .slice a7 k7 c7] 36)
     have hS1 := Lib.hid (hS.out.call ip)
     have LP := Lib.hid (hle.out.trans lp)
     have EP := Lib.hid ep
     have EM := Lib.hid (LP.out _ _ EP5.out)
     have HX := Lib.hid ((hx.mono hle.out).mono lp)
     have HV1 := Lib.hid (hV.out.mono lp)
     clear fs f6 hx ft hm hg2 htq ip ep lp hS hV hle
     go_upto_region 8 with fail
     generalize wr.alloc (.cells #[.bool g6, .slice a6 k6 c6, .slice a7 k7 c7] 36) = wz at *
     generalize wr.heap.size = b7 at *
     clear e0 e1 e2
     have NB0 : Hid (SmN 36 w φ φp b2 b3 #[.bool g1, .slice a1 k1 c1, .slice a2 k2 c2] none #[.bool false, .slice none 0 0, .slice none 0 0] wz) := Lib.hid (SmN.none hS1.out _)
     have NBd := SmN.drew NB0
     have NBa := SmN.drew (SmN.al NB0)
     have LR := Lib.hid φp.le_refl
     have hcf := Lib.hid (fun (ψ : Phi) (W : World) (hl : Hid (φp.le ψ)) (hf : Fz ψ W) => (⟨box_cell EP.out hl.out hf 0, box_cell EP.out hl.out hf 1, box_cell EP.out hl.out hf 2, box_cell EM.out hl.out hf 1, (FT.out W (hf.sub (LP.out.trans hl.out))).1, (FT.out W (hf.sub (LP.out.trans hl.out))).2⟩ : W.cell? ⟨b7, 0, none⟩ = some (.bool g6) ∧ W.cell? ⟨b7, 1, none⟩ = some (.slice a6 k6 c6) ∧ W.cell? ⟨b7, 2, none⟩ = some (.slice a7 k7 c7) ∧ W.cell? ⟨b5, 1, none⟩ = some (.slice (some ⟨bt, ot, none⟩) nt cr) ∧ W.cell? ⟨bt, ot + k * 2, none⟩ = some (.string s1) ∧ W.cell? ⟨bt, ot + k * 2 + 1, none⟩ = some (.string t1)))
     obtain ⟨x0, x1, x2, x3, x4, x5⟩ := hcf.out φp wz.drew LR NBd.out.m.s.inv.fz
     obtain ⟨y0, y1, y2, y3, y4, y5⟩ := hcf.out φp wz LR NB0.out.m.s.inv.fz
     have hfn := Lib.hid (fun (ψ : Phi) (x : Nat) (W : World) (hl : Hid (φp.le ψ)) (h : Hid (SmN 36 w φ ψ b2 b3 #[.bool g1, .slice a1 k1 c1, .slice a2 k2 c2] (some x) #[.bool false, .slice none 0 0, .slice none 0 0] W)) (u0 u1 u2 : Value) => hcf.out ψ _ hl (SmN.put h u0 u1 u2).m.s.inv.fz)
     apply wp_region_cutV (fun (i : Nat × Value × Bool × Option Addr × Nat × Nat × Option Addr × Nat × Nat) => [(32, .agg #[.bool g6, .slice a6 k6 c6, .slice a7 k7 c7]), (33, .pointer (some ⟨b5, 1, none⟩)), (34, .slice (some ⟨bt, ot, none⟩) nt cr), (35, .int .i64 (k : Int)), (36, .pointer (some ⟨bt, ot + k * 2, none⟩)), (37, .agg #[.string s1, .string t1]), (38, i.2.1), (39, .agg #[.bool i.2.2.1, .slice i.2.2.2.1 i.2.2.2.2.1 i.2.2.2.2.2.1, .slice i.2.2.2.2.2.2.1 i.2.2.2.2.2.2.2.1 i.2.2.2.2.2.2.2.2]), (12, .pointer (some ⟨i.1, 0, none⟩))])
      (fun i W => Hid (∃ φ3, φp.le φ3 ∧ SmN 36 w φ φ3 b2 b3 #[.bool g1, .slice a1 k1 c1, .slice a2 k2 c2] (some i.1) #[.bool i.2.2.1, .slice i.2.2.2.1 i.2.2.2.2.1 i.2.2.2.2.2.1, .slice i.2.2.2.2.2.2.1 i.2.2.2.2.2.2.2.1 i.2.2.2.2.2.2.2.2] W ∧ FrX φ3 (.agg #[.bool i.2.2.1, .slice i.2.2.2.1 i.2.2.2.2.1 i.2.2.2.2.2.1, .slice i.2.2.2.2.2.2.1 i.2.2.2.2.2.2.2.1 i.2.2.2.2.2.2.2.2]) (s k - ttQ T k) ND DD))
     case h1 =>
      intro KK hKK
      go_region_held3 (fun w' => w'.cell? ⟨b7, 0, none⟩ = some (.bool g6) ∧ w'.cell? ⟨b7, 1, none⟩ = some (.slice a6 k6 c6) ∧ w'.cell? ⟨b7, 2, none⟩ = some (.slice a7 k7 c7) ∧ w'.cell? ⟨b5, 1, none⟩ = some (.slice (some ⟨bt, ot, none⟩) nt cr) ∧ w'.cell? ⟨bt, ot + k * 2, none⟩ = some (.string s1) ∧ w'.cell? ⟨bt, ot + k * 2 + 1, none⟩ = some (.string t1)) (first | with_reducible exact ⟨x0, x1, x2, x3, x4, x5⟩ | with_reducible exact ⟨by assumption, by assumption, by assumption, by assumption, by assumption, by assumption⟩ | with_reducible exact ⟨keepAP (by with_reducible assumption), keepAP (by with_reducible assumption), keepAP (by with_reducible assumption), keepAP (by with_reducible assumption), keepAP (by with_reducible assumption), keepAP (by with_reducible assumption)⟩ | with_reducible exact ⟨keepDr (keepAP (by with_reducible assumption)), keepDr (keepAP (by with_reducible assumption)), keepDr (keepAP (by with_reducible assumption)), keepDr (keepAP (by with_reducible assumption)), keepDr (keepAP (by with_reducible assumption)), keepDr (keepAP (by with_reducible assumption))⟩ | with_reducible exact hfn.out _ _ _ (Lib.hid (LA.out.trans LB.out)) SB _ _ _ | fail) (first
       | ((first | (with_reducible refine (RMinus_P (SmN.sta _ _ _ _ _ _ _ _) hD hM HX LA VA HBM HMR SA).mono ?_) | (with_reducible refine (RMinus_P (SmN.sta _ _ _ _ _ _ _ _) hD hM HX LA VA HBM HMR (SmN.al SA)).mono ?_)); rintro en wB ⟨gB, aB, kB, cB, aB', kB', cB', φB, rfl, SB, LB, VB⟩; (try (have vv := SmN.facts SB; obtain ⟨v10, v11, v12, v13, v14, v15⟩ := vv)); obtain ⟨p0, p1, p2, p3, p4, p5⟩ := hcf.out φB wB (Lib.hid (LA.out.trans LB.out)) SB.out.m.s.inv.fz)
       | ((first | (with_reducible refine (RFracOf_P (SmN.sta _ _ _ _ _ _ _ _) hrf hxt hbd NBd).mono ?_) | (with_reducible refine (RFracOf_P (SmN.sta _ _ _ _ _ _ _ _) hrf hxt hbd NBa).mono ?_)); rintro en wA ⟨gA, aA, kA, cA, aA', kA', cA', φA, rfl, SA, LA, VA⟩; (try (have vv := SmN.facts SA; obtain ⟨v00, v01, v02, v03, v04, v05⟩ := vv)); obtain ⟨o0, o1, o2, o3, o4, o5⟩ := hcf.out φA wA LA SA.out.m.s.inv.fz)
       | fail)
      all_goals
       refine onlyN_mk ?_
       have hk9 := fun x W s => hKK.out (x, .agg #[.bool gA, .slice aA kA cA, .slice aA' kA' cA'], gB, aB, kB, cB, aB', kB', cB') W s
       simp only [updA, List.foldl_cons, List.foldl_nil, List.setIfInBounds_toArray, List.set_cons_succ, List.set_cons_zero] at hk9
       refine hk9 _ _ (Lib.hid ⟨φB, LA.out.trans LB.out, ?_, VB.out⟩)
       first
        | with_reducible exact SmN.mk1 SB.out.m _
        | with_reducible exact SmN.put SB _ _ _
     case h2 =>
      rintro ⟨bd, vA, gD, aD, kD, cD, aD', kD', cD'⟩ W9 hF9
      simp only [updA, List.foldl_cons, List.foldl_nil, List.setIfInBounds_toArray, List.set_cons_succ, List.set_cons_zero]
      obtain ⟨φ3, hl3, hN3, hV3⟩ := hF9.out
      have S8 := Lib.hid hN3
      have V8 := Lib.hid hV3
      have VO8 := Lib.hid (HV1.out.mono hl3)
      have L8 := Lib.hid (LP.out.trans hl3)
      have LR8 := Lib.hid φ3.le_refl
      clear hF9 hl3 hN3 hV3 x0 x1 x2 x3 x4 x5 y0 y1 y2 y3 y4 y5 hcf hfn NBd NBa NB0 hS1 HV1
      obtain ⟨f0, f1, f2, f3, f4, f5⟩ := SmN.facts S8
      by_cases hneg : s k - ttQ T k < 0
      ·have hbl : Hid (decide (s k - ttQ T k < 0) = true) := Lib.hid (decide_eq_true hneg)
       have hab : Hid (-(s k - ttQ T k) = abQ (s k - ttQ T k)) := Lib.hid (by unfold abQ; rw [if_pos hneg])
       clear hneg
       go_upto_region 10 with (go_at_call 16; (with_reducible refine (RBelow_P (SmN.sta _ _ _ _ _ _ _ _) V8 LR8 hbl S8).mono ?_); rintro en w7 ⟨rfl, S7⟩)
       clear f0 f1 f2 f3 f4 f5
       obtain ⟨f0, f1, f2, f3, f4, f5⟩ := SmN.facts S7
       go_upto_region 11 with (go_at_call 17; (with_reducible refine (ROpposite_P (SmN.sta _ _ _ _ _ _ _ _) V8 LR8 S7).mono ?_); rintro en w6 ⟨gE, aE, kE, cE, aE', kE', cE', φE, rfl, S6, LE, VE⟩; obtain ⟨h0, h1, h2, h3, h4, h5⟩ := SmN.facts S6)
       have S5 := Lib.hid (SmN.put S6 (.bool gE) (.slice aE kE cE) (.slice aE' kE' cE'))
       have VX : Hid (FrX φE (.agg #[.bool gE, .slice aE kE cE, .slice aE' kE' cE']) (abQ (s k - ttQ T k)) ND DD) := Lib.hid (by rw [← hab.out]; exact VE.out)
       have VOE := Lib.hid (VO8.out.mono LE.out)
       have L5 := Lib.hid (L8.out.trans LE.out)
       clear f0 f1 f2 f3 f4 f5 h0 h1 h2 h3 h4 h5 S6 S7 S8 VE VO8 V8
       generalize ((w6.setCell ⟨bd, 0, none⟩ (.bool gE)).setCell ⟨bd, 1, none⟩ (.slice aE kE cE)).setCell ⟨bd, 2, none⟩ (.slice aE' kE' cE') = wE at *
       obtain ⟨φ4', l4, hS4, e4⟩ := S5.out.frz
       have S9 := Lib.hid hS4
       have E9 := Lib.hid e4
       have VD := Lib.hid (VX.out.mono l4)
       have VO := Lib.hid (VOE.out.mono l4)
       have L9 := Lib.hid (L5.out.trans l4)
       have LR9 := Lib.hid φ4'.le_refl
       clear hS4 e4 l4
       have u0 : wE.cell? ⟨bd, 0, none⟩ = some (.bool gE) := box_cell E9.out φ4'.le_refl S9.out.s.inv.fz 0
       have u1 : wE.cell? ⟨bd, 1, none⟩ = some (.slice aE kE cE) := box_cell E9.out φ4'.le_refl S9.out.s.inv.fz 1
       have u2 : wE.cell? ⟨bd, 2, none⟩ = some (.slice aE' kE' cE') := box_cell E9.out φ4'.le_refl S9.out.s.inv.fz 2
       have z0 : wE.cell? ⟨b3, 0, none⟩ = some (.bool g1) := S9.out.s.k.cell 0
       have z1 : wE.cell? ⟨b3, 1, none⟩ = some (.slice a1 k1 c1) := S9.out.s.k.cell 1
       have z2 : wE.cell? ⟨b3, 2, none⟩ = some (.slice a2 k2 c2) := S9.out.s.k.cell 2
       obtain ⟨q, hq⟩ : ∃ q, Hid (cmpQ (abQ (s k - ttQ T k)) (dsC s T k (dsM ws m l n i)) = q) := ⟨_, Lib.hid rfl⟩
       have hqp : 0 < q ↔ dsC s T k (dsM ws m l n i) < abQ (s k - ttQ T k) := by rw [← hq.out]; exact cmpQ_gt
       by_cases hq0 : 0 < q
       ·have hst := Lib.hid (dsC_yes (hqp.1 hq0))
        clear hqp
        go_upto_region 12 with (go_at_call 11; (with_reducible refine (ROrder_P (SmS.staD _ _ _ _ _ _) hD hM VD LR9 VO LR9 HBC hq S9).mono ?_); rintro en w6' ⟨φ6, rfl, S6', L6'⟩)
        clear u0 u1 u2 z0 z1 z2
        have u0 : w6'.cell? ⟨bd, 0, none⟩ = some (.bool gE) := box_cell E9.out L6'.out S6'.out.s.inv.fz 0
        have u1 : w6'.cell? ⟨bd, 1, none⟩ = some (.slice aE kE cE) := box_cell E9.out L6'.out S6'.out.s.inv.fz 1
        have u2 : w6'.cell? ⟨bd, 2, none⟩ = some (.slice aE' kE' cE') := box_cell E9.out L6'.out S6'.out.s.inv.fz 2
        have z0 : w6'.cell? ⟨b3, 0, none⟩ = some (.bool g1) := S6'.out.s.k.cell 0
        have z1 : w6'.cell? ⟨b3, 1, none⟩ = some (.slice a1 k1 c1) := S6'.out.s.k.cell 1
        have z2 : w6'.cell? ⟨b3, 2, none⟩ = some (.slice a2 k2 c2) := S6'.out.s.k.cell 2
        have r0 := S6'.out.s.k.frz 0
        have r1 := S6'.out.s.k.frz 1
        have r2 := S6'.out.s.k.frz 2
        go_wp2
        go_roundw
        case rel =>
         refine ⟨k + 1, φ6, gE, aE, kE, cE, aE', kE', cE', by omega, by go_num, Lib.hid (L9.out.trans L6'.out), Lib.hid (((S6'.out.set 0 (.bool gE)).set 1 (.slice aE kE cE)).set 2 (.slice aE' kE' cE')), ?_⟩
         rw [hst.out]
         exact Lib.hid (VD.out.mono L6'.out)
        case measure => (simp [intOf] <;> omega)
       ·have hst := Lib.hid (dsC_no (fun h => hq0 (hqp.2 h)))
        clear hqp
        go_wp2_with (go_at_call 11; (with_reducible refine (ROrder_P (SmS.staD _ _ _ _ _ _) hD hM VD LR9 VO LR9 HBC hq S9).mono ?_); rintro en w6' ⟨φ6, rfl, S6', L6'⟩)
        go_roundw
        case rel =>
         refine ⟨k + 1, φ6, g1, a1, k1, c1, a2, k2, c2, by omega, by go_num, Lib.hid (L9.out.trans L6'.out), S6', ?_⟩
         rw [hst.out]
         exact Lib.hid (VO.out.mono L6'.out)
        case measure => (simp [intOf] <;> omega)
      ·have hbl : Hid (decide (s k - ttQ T k < 0) = false) := Lib.hid (decide_eq_false hneg)
       have hab : Hid (s k - ttQ T k = abQ (s k - ttQ T k)) := Lib.hid (by unfold abQ; rw [if_neg hneg])
       clear hneg
       go_upto_region 11 with (go_at_call 16; (with_reducible refine (RBelow_P (SmN.sta _ _ _ _ _ _ _ _) V8 LR8 hbl S8).mono ?_); rintro en w7 ⟨rfl, S7⟩)
       have VX : Hid (FrX φ3 (.agg #[.bool gD, .slice aD kD cD, .slice aD' kD' cD']) (abQ (s k - ttQ T k)) ND DD) := Lib.hid (by rw [← hab.out]; exact V8.out)
       clear f0 f1 f2 f3 f4 f5 S8 V8
       obtain ⟨φ4', l4, hS4, e4⟩ := S7.out.frz
       have S9 := Lib.hid hS4
       have E9 := Lib.hid e4
       have VD := Lib.hid (VX.out.mono l4)
       have VO := Lib.hid (VO8.out.mono l4)
       have L9 := Lib.hid (L8.out.trans l4)
       have LR9 := Lib.hid φ4'.le_refl
       clear hS4 e4 l4
       have u0 : w7.cell? ⟨bd, 0, none⟩ = some (.bool gD) := box_cell E9.out φ4'.le_refl S9.out.s.inv.fz 0
       have u1 : w7.cell? ⟨bd, 1, none⟩ = some (.slice aD kD cD) := box_cell E9.out φ4'.le_refl S9.out.s.inv.fz 1
       have u2 : w7.cell? ⟨bd, 2, none⟩ = some (.slice aD' kD' cD') := box_cell E9.out φ4'.le_refl S9.out.s.inv.fz 2
       have z0 : w7.cell? ⟨b3, 0, none⟩ = some (.bool g1) := S9.out.s.k.cell 0
       have z1 : w7.cell? ⟨b3, 1, none⟩ = some (.slice a1 k1 c1) := S9.out.s.k.cell 1
       have z2 : w7.cell? ⟨b3, 2, none⟩ = some (.slice a2 k2 c2) := S9.out.s.k.cell 2
       obtain ⟨q, hq⟩ : ∃ q, Hid (cmpQ (abQ (s k - ttQ T k)) (dsC s T k (dsM ws m l n i)) = q) := ⟨_, Lib.hid rfl⟩
       have hqp : 0 < q ↔ dsC s T k (dsM ws m l n i) < abQ (s k - ttQ T k) := by rw [← hq.out]; exact cmpQ_gt
       by_cases hq0 : 0 < q
       ·have hst := Lib.hid (dsC_yes (hqp.1 hq0))
        clear hqp
        go_upto_region 12 with (go_at_call 11; (with_reducible refine (ROrder_P (SmS.staD _ _ _ _ _ _) hD hM VD LR9 VO LR9 HBC hq S9).mono ?_); rintro en w6' ⟨φ6, rfl, S6', L6'⟩)
        clear u0 u1 u2 z0 z1 z2
        have u0 : w6'.cell? ⟨bd, 0, none⟩ = some (.bool gD) := box_cell E9.out L6'.out S6'.out.s.inv.fz 0
        have u1 : w6'.cell? ⟨bd, 1, none⟩ = some (.slice aD kD cD) := box_cell E9.out L6'.out S6'.out.s.inv.fz 1
        have u2 : w6'.cell? ⟨bd, 2, none⟩ = some (.slice aD' kD' cD') := box_cell E9.out L6'.out S6'.out.s.inv.fz 2
        have z0 : w6'.cell? ⟨b3, 0, none⟩ = some (.bool g1) := S6'.out.s.k.cell 0
        have z1 : w6'.cell? ⟨b3, 1, none⟩ = some (.slice a1 k1 c1) := S6'.out.s.k.cell 1
        have z2 : w6'.cell? ⟨b3, 2, none⟩ = some (.slice a2 k2 c2) := S6'.out.s.k.cell 2
        have r0 := S6'.out.s.k.frz 0
        have r1 := S6'.out.s.k.frz 1
        have r2 := S6'.out.s.k.frz 2
        go_wp2
        go_roundw
        case rel =>
         refine ⟨k + 1, φ6, gD, aD, kD, cD, aD', kD', cD', by omega, by go_num, Lib.hid (L9.out.trans L6'.out), Lib.hid (((S6'.out.set 0 (.bool gD)).set 1 (.slice aD kD cD)).set 2 (.slice aD' kD' cD')), ?_⟩
         rw [hst.out]
         exact Lib.hid (VD.out.mono L6'.out)
        case measure => (simp [intOf] <;> omega)
       ·have hst := Lib.hid (dsC_no (fun h => hq0 (hqp.2 h)))
        clear hqp
        go_wp2_with (go_at_call 11; (with_reducible refine (ROrder_P (SmS.staD _ _ _ _ _ _) hD hM VD LR9 VO LR9 HBC hq S9).mono ?_); rintro en w6' ⟨φ6, rfl, S6', L6'⟩)
        go_roundw
        case rel =>
         refine ⟨k + 1, φ6, g1, a1, k1, c1, a2, k2, c2, by omega, by go_num, Lib.hid (L9.out.trans L6'.out), S6', ?_⟩
         rw [hst.out]
         exact Lib.hid (VO.out.mono L6'.out)
        case measure => (simp [intOf] <;> omega)
    ·obtain rfl : k = nt := by omega
     go_wp2
     go_roundw
     case rel =>
      refine ⟨i + 1, φ', g1, a1, k1, c1, a2, k2, c2, by omega, by go_num, hS, ?_⟩
      rw [hdM.out]
      exact hV
     case measure => (simp [intOf] <;> omega)
  ·obtain rfl : i = nm := by omega
   have z0 : wr.cell? ⟨b3, 0, none⟩ = some (.bool g1) := hS.out.s.k.cell 0
   have z1 : wr.cell? ⟨b3, 1, none⟩ = some (.slice a1 k1 c1) := hS.out.s.k.cell 1
   have z2 : wr.cell? ⟨b3, 2, none⟩ = some (.slice a2 k2 c2) := hS.out.s.k.cell 2
   obtain ⟨y0, y1, y2, y3, y4, y5⟩ := hS.out.r.facts
   go_wp2
   have hIZ := Lib.hid (((hS.out.r.inv.setCell hS.out.r.l hS.out.r.f (off := 0) (Value.bool g1)).setCell hS.out.r.l hS.out.r.f (off := 1) (Value.slice a1 k1 c1)).setCell hS.out.r.l hS.out.r.f (off := 2) (Value.slice a2 k2 c2))
   have hBZ := Lib.hid (((hS.out.r.k.set 0 (Value.bool g1)).set 1 (Value.slice a1 k1 c1)).set 2 (Value.slice a2 k2 c2))
   have e0 : _ = some (Value.bool g1) := hBZ.out.cell 0
   have e1 : _ = some (Value.slice a1 k1 c1) := hBZ.out.cell 1
   have e2 : _ = some (Value.slice a2 k2 c2) := hBZ.out.cell 2
   (try simp only [Exit.inBlock, Exit.then])
   refine bodyPost_ret (v := .agg #[(Value.bool g1), (Value.slice a1 k1 c1), (Value.slice a2 k2 c2)]) (by simp [results, Tryz.results73, go_sem, e0, e1, e2]) rfl ?_
   exact ⟨_, φ', rfl, hIZ.out, hV.out⟩
end Go.Proofs.YtmlpjffnmkndoaaGreatDoor

namespace Go.Proofs.YtmlpjffnmkndoaaGreatDoor
open Go.RowKit
set_option linter.unusedVariables false
set_option linter.unusedSimpArgs false
set_option maxRecDepth 100000 in
set_option maxHeartbeats 2000000 in
theorem Rweights_own {n : Nat} {a : Option Addr} {cap : Nat} {l : List Psn} {w : World} {φ : Phi} (hφ : Fz φ w) (sl : SlV φ a cap l) (hn : Hid (l.length = n)) (hn3 : n ≤ 3000) (hok : Hid (∀ p ∈ l, shoF p.1.1 p.1.2 = 0)) :
  Calls Tryz.prog 56 #[.slice a n cap] w (fun e w' => ∃ ao co φ', e = .returned (.slice ao n co) ∧ Inv w.heap.size w φ φ' w' ∧ Own w.heap.size φ' w' 36 ao co (l.map rxW)) := by
 have hS0 : Hid (OwR w φ φ 36 none 0 ([] : List (Rx 1000000000000 1000000000000)) w) := Lib.hid ⟨Inv.start hφ, Own.nil _ _ _ _⟩
 clear hφ
 go_enter Tryz.func56, Tryz.ntmps56
 go_wp2
 go_loopw [3, 8] (fun ov iv wr => ∃ (k : Nat) (ao : Option Addr) (co : Nat) (os : List (Rx 1000000000000 1000000000000)) (φ' : Phi), k ≤ n ∧ iv = .int .i64 (k : Int) ∧ ov = .slice ao k co ∧ Hid (os.length = k) ∧ Hid (os = (l.take k).map rxW) ∧ Hid (OwR w φ φ' 36 ao co os wr)) (fun _ iv _ => n - (intOf iv).toNat)
 case atStart => exact ⟨0, none, 0, [], φ, Nat.zero_le _, rfl, rfl, Lib.hid rfl, Lib.hid rfl, hS0⟩
 case round =>
  clear hS0
  obtain ⟨k, ao, co, os, φ', hk, rfl, rfl, hol, hL, hS⟩ := hrel
  by_cases hlt : k < n
  ·have hlti : (k : Int) < (n : Int) := by omega
   obtain ⟨b, off, rfl, f⟩ := sl.psnsD hn hlt
   obtain ⟨ar, cr, _, f2⟩ := f k hlt
   obtain ⟨d0, d1, d2, d3, d4, d5⟩ := f2 wr (hS.out.inv.fz.sub hS.out.inv.le)
   have hm : l.getD k psn0 ∈ l := by rw [getD_elem0 _ _ _ (by rw [hn.out]; exact hlt)]; exact List.getElem_mem _
   obtain ⟨p, hp⟩ : ∃ p, l.getD k psn0 = p := ⟨_, rfl⟩
   rw [hp] at hm d0 d1 d2 d3 d4 d5
   have hz := hok.out p hm
   obtain ⟨⟨s, t⟩, cl, x, y, z⟩ := p
   have hz : shoF s t = 0 := hz
   dsimp only at d0 d1 d2 d3 d4 d5
   obtain ⟨m, hm9⟩ : ∃ m, cl.length = m := ⟨_, rfl⟩
   rw [hm9] at d2
   have HOK := Lib.hid (ratF_ok (shoF_ok hz).1)
   obtain ⟨hN, hDn⟩ := sho_lt hz
   have hC := Lib.hid (fun (ψ : Phi) W (hf : Fz ψ W) => RFracOf_any HOK.out hf)
   have HB := Lib.hid (And.intro hN hDn)
   have hnx : Hid (os ++ [⟨ratX s t⟩] = (l.take (k + 1)).map rxW) := Lib.hid (by
    rw [take_snocD psn0 l k n hn.out hlt, List.map_append, hp, hL.out]; rfl)
   have hS1 := Lib.hid (hS.out.alloc (.cells #[.string s, .string t, .slice ar m cr, .int .i64 x, .int .i64 y, .int .i64 z] 76))
   clear f f2 hm hz hp hm9 hN hDn hS
   go_wp2_with (first
    | (go_at_call 12; (with_reducible refine (hC.out φ' _ hS1.out.inv.fz).mono ?_); rintro e w4 ⟨v4, φ4, rfl, hi4, hv4⟩; have hv5 := hv4.le HB.out.1 HB.out.2; obtain ⟨g, a1, k1, c1, a2, k2, c2, rfl, hrep⟩ := hv5.rx; have hS4 := Lib.hid (hS1.out.call hi4); have hin := Lib.hid hS4.out.inv; have hon := Lib.hid hS4.out.own; have HREP := Lib.hid hrep; clear hi4 hv4 hv5 hrep)
    | (at_builtin; (refine wpList_app1F (α := Rx 1000000000000 1000000000000) rfl _ _ 93 rfl (slRx _ _) hin.out ao co os hon.out #[.bool g, .slice a1 k1 c1, .slice a2 k2 c2] 36 ⟨ratX s t⟩ HREP.out (by rw [hol.out]; rfl) 1 rfl (by rw [hol.out]; omega) ?_; intro a9 c9 w9 hi9 ho9 hg9 hf9; rw [show (os ++ [(⟨ratX s t⟩ : Rx 1000000000000 1000000000000)]).length = k + 1 from by rw [List.length_append, hol.out]; rfl])))
   go_roundw
   case rel => exact ⟨k + 1, a9, c9, os ++ [⟨ratX s t⟩], φ4, by omega, by go_num, rfl, Lib.hid (by rw [List.length_append, hol.out]; rfl), hnx, Lib.hid ⟨hi9, ho9⟩⟩
   case measure => (simp [intOf] <;> omega)
  ·obtain rfl : k = n := by omega
   have e : os = l.map rxW := by
    have := hL.out
    rwa [List.take_of_length_le (by rw [hn.out]; exact Nat.le_refl _)] at this
   have HO := Lib.hid hS.out.own
   have HI2 := Lib.hid hS.out.inv
   rw [e] at HO
   clear hS hL e
   go_wp2
   go_ret
   exact ⟨ao, co, φ', rfl, HI2.out, HO.out⟩
theorem RowB.own2 {φ : Phi} {w : World} {a : Option Addr} {n N D B cap : Nat} {ws : List Rat} {E : TypeId} {rs : List Raw3} (h : Own B φ w E a cap rs) (hn : Hid (rs.length = n)) (hx : ∀ j, j < n → FrX φ (rs.getD j raw0).v (ws.getD j 0) N D) : RowB φ w a n ws N D := fun h0 => by
 obtain ⟨g, rfl, _⟩ := h.rawD hn h0
 exact RowB.own h hn hx h0
/-- A box and a row of the call's own. -/
structure RwO (T E : TypeId) (w0 : World) (φ0 φ : Phi) (b1 : Nat) (cs1 : Array Value) (a : Option Addr) (cap : Nat) (rs : List Raw3) (W : World) : Prop where
 r : RsSt w0 φ0 φ b1 cs1 T W
 o : Own w0.heap.size φ W E a cap rs
 n : ∀ x, a = some x → x.block ≠ b1
/-- Three boxes and a row of the call's own. -/
structure RkS (T E : TypeId) (w0 : World) (φ0 φ : Phi) (b1 : Nat) (cs1 : Array Value) (b2 : Nat) (cs2 : Array Value) (b3 : Nat) (cs3 : Array Value) (a : Option Addr) (cap : Nat) (rs : List Raw3) (W : World) : Prop where
 r : RsSt w0 φ0 φ b1 cs1 T W
 u : RsSt w0 φ0 φ b2 cs2 T W
 d : RsSt w0 φ0 φ b3 cs3 E W
 o : Own w0.heap.size φ W E a cap rs
 n12 : b2 ≠ b1
 n13 : b3 ≠ b1
 n23 : b3 ≠ b2
 n : ∀ x, a = some x → x.block ≠ b1 ∧ x.block ≠ b2 ∧ x.block ≠ b3
section
variable {T E : TypeId} {w0 W w' : World} {φ0 φ φ' : Phi} {b1 b2 b3 cap : Nat} {cs1 cs2 cs3 : Array Value} {a : Option Addr} {rs : List Raw3}
theorem Own.setN {g j : Nat} {u : Value} {B : Nat} (h : Own B φ W E a cap rs) (hne : ∀ x, a = some x → x.block ≠ g) : Own B φ (W.setCell ⟨g, j, none⟩ u) E a cap rs := by
 exact h.other (row := some g) ⟨rfl, rfl, rfl, by simp [World.setCell], fun q _ hq => Below.heap_setCell _ _ _ _ (by intro e; exact hq (by rw [e]))⟩ (fun y hy e => by first | exact hne y hy (Option.some.inj e) | exact hne y hy (Option.some.inj e).symm)
theorem RwO.call (h : RwO T E w0 φ0 φ b1 cs1 a cap rs W) (hi : Inv W.heap.size W φ φ' w') : RwO T E w0 φ0 φ' b1 cs1 a cap rs w' := ⟨h.r.call hi, h.o.call hi, h.n⟩
theorem RwO.callB (h : RwO T E w0 φ0 φ b1 cs1 a cap rs W) (hb : Below W.heap.size W w') : RwO T E w0 φ0 φ b1 cs1 a cap rs w' := ⟨h.r.callB hb, h.o.callB hb, h.n⟩
theorem RwO.sta (T E : TypeId) (w0 : World) (φ0 : Phi) (b1 : Nat) (cs1 : Array Value) (a : Option Addr) (cap : Nat) (rs : List Raw3) : Sta (fun φ W => RwO T E w0 φ0 φ b1 cs1 a cap rs W) := ⟨fun h => h.r.inv.fz, fun h hi => h.call hi⟩
theorem RkS.call (h : RkS T E w0 φ0 φ b1 cs1 b2 cs2 b3 cs3 a cap rs W) (hi : Inv W.heap.size W φ φ' w') : RkS T E w0 φ0 φ' b1 cs1 b2 cs2 b3 cs3 a cap rs w' := ⟨h.r.call hi, h.u.call hi, h.d.call hi, h.o.call hi, h.n12, h.n13, h.n23, h.n⟩
theorem RkS.callB (h : RkS T E w0 φ0 φ b1 cs1 b2 cs2 b3 cs3 a cap rs W) (hb : Below W.heap.size W w') : RkS T E w0 φ0 φ b1 cs1 b2 cs2 b3 cs3 a cap rs w' := ⟨h.r.callB hb, h.u.callB hb, h.d.callB hb, h.o.callB hb, h.n12, h.n13, h.n23, h.n⟩
theorem RkS.sta (T E : TypeId) (w0 : World) (φ0 : Phi) (b1 : Nat) (cs1 : Array Value) (b2 : Nat) (cs2 : Array Value) (b3 : Nat) (cs3 : Array Value) (a : Option Addr) (cap : Nat) (rs : List Raw3) : Sta (fun φ W => RkS T E w0 φ0 φ b1 cs1 b2 cs2 b3 cs3 a cap rs W) := ⟨fun h => h.r.inv.fz, fun h hi => h.call hi⟩
theorem RkS.setU (h : RkS T E w0 φ0 φ b1 cs1 b2 cs2 b3 cs3 a cap rs W) (j : Nat) (u : Value) : RkS T E w0 φ0 φ b1 cs1 b2 (cs2.setIfInBounds j u) b3 cs3 a cap rs (W.setCell ⟨b2, j, none⟩ u) :=
 ⟨h.r.setNe h.u.l h.u.f h.n12 j u, h.u.set j u, h.d.setNe h.u.l h.u.f (Ne.symm h.n23) j u, h.o.setN (fun x hx => (h.n x hx).2.1), h.n12, h.n13, h.n23, h.n⟩
theorem RkS.setD (h : RkS T E w0 φ0 φ b1 cs1 b2 cs2 b3 cs3 a cap rs W) (j : Nat) (u : Value) : RkS T E w0 φ0 φ b1 cs1 b2 cs2 b3 (cs3.setIfInBounds j u) a cap rs (W.setCell ⟨b3, j, none⟩ u) :=
 ⟨h.r.setNe h.d.l h.d.f h.n13 j u, h.u.setNe h.d.l h.d.f h.n23 j u, h.d.set j u, h.o.setN (fun x hx => (h.n x hx).2.2), h.n12, h.n13, h.n23, h.n⟩
theorem RkS.setW {g : Nat} (h : RkS T E w0 φ0 φ b1 cs1 b2 cs2 b3 cs3 (some ⟨g, 0, none⟩) cap rs W) {k n : Nat} (hn : Hid (rs.length = n)) (hk : k < n) (y : Raw3) : RkS T E w0 φ0 φ b1 cs1 b2 cs2 b3 cs3 (some ⟨g, 0, none⟩) cap (rs.set k y) (((W.setCell ⟨g, k * 3, none⟩ (.bool y.g)).setCell ⟨g, k * 3 + 1, none⟩ (.slice y.a1 y.k1 y.c1)).setCell ⟨g, k * 3 + 2, none⟩ (.slice y.a2 y.k2 y.c2)) := by
 obtain ⟨g', e', hl, _, hf, _, _, _, _, hs⟩ := h.o.rawD hn hk
 cases e'
 obtain ⟨m1, m2, m3⟩ := h.n _ rfl
 obtain ⟨o1, i1⟩ := hs y w0 φ0 h.r.inv
 exact ⟨((h.r.setNe hl hf m1 _ _).setNe hl hf m1 _ _).setNe hl hf m1 _ _, ((h.u.setNe hl hf m2 _ _).setNe hl hf m2 _ _).setNe hl hf m2 _ _, ((h.d.setNe hl hf m3 _ _).setNe hl hf m3 _ _).setNe hl hf m3 _ _, o1, h.n12, h.n13, h.n23, h.n⟩
theorem RkS.mk3 (h : RwO T E w0 φ0 φ b1 cs1 a cap rs W) (cs2 : Array Value) : (∀ x, a = some x → x.block ≠ W.heap.size) ∧ RwO T E w0 φ0 φ b1 cs1 a cap rs (W.alloc (.cells cs2 T)) ∧ RsSt w0 φ0 φ W.heap.size cs2 T (W.alloc (.cells cs2 T)) ∧ W.heap.size ≠ b1 :=
 ⟨fun x hx => by have := (h.o.lt x hx).2; omega, h.callB ((Below.refl _ _).alloc (Nat.le_refl _) _), RsSt.start h.r.inv _ _, by have := h.r.k.lt; omega⟩
/-- A further box beside two and a row. -/
theorem RkS.mk4 (h : RwO T E w0 φ0 φ b1 cs1 a cap rs W) (hu : RsSt w0 φ0 φ b2 cs2 T W) (h12 : b2 ≠ b1) (hab : ∀ x, a = some x → x.block ≠ b2) (cs3 : Array Value) : RkS T E w0 φ0 φ b1 cs1 b2 cs2 W.heap.size cs3 a cap rs (W.alloc (.cells cs3 E)) :=
 ⟨h.r.callB ((Below.refl _ _).alloc (Nat.le_refl _) _), hu.callB ((Below.refl _ _).alloc (Nat.le_refl _) _), RsSt.start h.r.inv _ _, h.o.callB ((Below.refl _ _).alloc (Nat.le_refl _) _), h12, by have := h.r.k.lt; omega, by have := hu.k.lt; omega, fun x hx => ⟨h.n x hx, hab x hx, by have := (h.o.lt x hx).2; omega⟩⟩
/-- The row frozen. -/
theorem RkS.rel (h : RkS T E w0 φ0 φ b1 cs1 b2 cs2 b3 cs3 a cap rs W) : ∃ φ', φ.le φ' ∧ SlV φ' a cap rs ∧ RsSt w0 φ0 φ' b1 cs1 T W ∧ RsSt w0 φ0 φ' b2 cs2 T W ∧ RsSt w0 φ0 φ' b3 cs3 E W := by
 obtain ⟨φ2, l2, i2, s2, f2⟩ := h.o.release h.r.inv
 have hb : ∀ b, (∀ x, a = some x → x.block ≠ b) → φ2 b = φ b := fun b hb => f2 b (fun q => by
  cases ha : a with
  | none => rw [ha] at q; cases q
  | some z => rw [ha] at q; exact hb z ha (by simpa using q.symm))
 exact ⟨φ2, l2, s2, ⟨i2, h.r.k, by rw [hb b1 (fun x hx => (h.n x hx).1)]; exact h.r.f, h.r.l⟩, ⟨i2, h.u.k, by rw [hb b2 (fun x hx => (h.n x hx).2.1)]; exact h.u.f, h.u.l⟩, ⟨i2, h.d.k, by rw [hb b3 (fun x hx => (h.n x hx).2.2)]; exact h.d.f, h.d.l⟩⟩
end
theorem Near_P {P0 : Phi → World → Prop} (hP0 : Sta P0) {M : Nat} (hD : Hid (RdivOk M)) (hM : LenB M) {N n : Nat} (hB : Hid (RkB M N n)) (hN1 : 1 ≤ N) {p P : Nat} (hp : p ≤ 1000) (hP : Hid (10 ^ p = P)) (hPN : P ≤ N) {v : Value} {x : Rat} (hx : Hid (0 ≤ x ∧ x ≤ ((N : Int) : Rat))) {φ ψ : Phi} {W : World} (hS : Hid (P0 φ W)) (h1 : Hid (FrX ψ v x (N * N * (N * N ^ n)) (N * (N * (n * (N * N) * N ^ n))))) (hl : Hid (ψ.le φ)) :
  Calls Tryz.prog 74 #[v, .int .i64 (p : Int)] W (FrS P0 φ (rndQ P x) (N * N) N) := by
 have hP1 : 0 < P := by rw [← hP.out]; exact Nat.pow_pos (by decide)
 have hm1 : N * N * (N * N ^ n) * P * 2 + N * (N * (n * (N * N) * N ^ n)) ≤ M := Nat.le_trans (Nat.add_le_add_right (Nat.mul_le_mul_right 2 (Nat.mul_le_mul_left _ hPN)) _) hB.out.r1
 have hm3 : N * N * (N * N ^ n) ≤ M := hB.out.f.c5
 exact (Near_any hD hM hp hP hP1 hm1 hm3 (Nat.le_trans hPN hB.out.h2) hB.out.h1 hB.out.r2 (Nat.le_trans (rnN_le x.den_pos (num_le hx.out.1 hx.out.2)) (Nat.mul_le_mul_left N hPN)) (hP0.fz hS.out) (h1.out.mono hl.out)).mono (fun en w' hp => FrS.of hP0 (Nat.le_refl _) hPN hS hp)
theorem SlV.rawRx {φ : Phi} {N D : Nat} {a : Option Addr} {cap n : Nat} {rs : List Raw3} {ws : List Rat} (h : SlV φ a cap rs) (hn : rs.length = n) (hw : ws.length = n) (hx : ∀ j, j < n → FrX φ (rs.getD j raw0).v (ws.getD j 0) N D) : SlV φ a cap (ws.map (Rx.mk (N := N) (D := D))) := by
 subst hn
 refine ⟨by have := h.capn; rw [List.length_map]; omega, h.capm, h.nil, fun hne => ?_⟩
 obtain ⟨b, off, ha, hc⟩ := h.at_ (by intro e; subst e; exact hne (by rw [List.map_eq_nil_iff]; exact List.eq_nil_of_length_eq_zero hw))
 refine ⟨b, off, ha, fun k hk => ?_⟩
 have hk' : k < rs.length := by rw [List.length_map] at hk; omega
 obtain ⟨cs, hr, hj⟩ := hc k hk'
 have hr : cs = [.bool rs[k].g, .slice rs[k].a1 rs[k].k1 rs[k].c1, .slice rs[k].a2 rs[k].k2 rs[k].c2] := hr
 subst hr
 refine ⟨_, ?_, hj⟩
 rw [List.getElem_map]
 have h2 := hx k hk'
 rw [getD_elem0 _ _ _ hk', getD_elem0 _ _ _ (by omega)] at h2
 exact ⟨rs[k].g, rs[k].a1, rs[k].k1, rs[k].c1, rs[k].a2, rs[k].k2, rs[k].c2, rfl, h2⟩
end Go.Proofs.YtmlpjffnmkndoaaGreatDoor
