/- The program's sums and products of ratios: the walks of two, Sum and Product. Conditions: both ratios are right; the library's table of powers of ten reads as it was laid. The program's Sum and Product of ratios. Conditions: both ratios are right; the library's table of powers of ten reads as it was laid. The program's products of ratios. Conditions: both ratios are right; the library's table of powers of ten reads as it was laid. Conditions: none beyond what the claim form gives. -/
import Derived.Test.YtnlhalnjbkpdnaaGreatDoorBA
import Derived.Test.YtnlhalnjbkpdnaaGreatDoorPC
import Derived.Test.YtnlhalnjbkpdnaaGreatDoorPD
import Derived.RegionTactic
import Derived.BigRegion
namespace Go.Proofs.YtnlhalnjbkpdnaaGreatDoor
open Go.RowKit
set_option linter.unusedVariables false
set_option linter.unusedSimpArgs false
/-- Two results' cells, three cells each. -/
structure TwC (w0 : World) (φ0 φ : Phi) (b4 b5 : Nat) (cs ds : Array Value) (W : World) : Prop where
  x : RsSt w0 φ0 φ b4 cs 203 W
  y : RsSt w0 φ0 φ b5 ds 203 W
  ne : b4 ≠ b5
section
variable {w0 W w' : World} {φ0 φ φ' : Phi} {b4 b5 : Nat} {cs ds : Array Value}
theorem TwC.call (h : TwC w0 φ0 φ b4 b5 cs ds W) (hi : Inv W.heap.size W φ φ' w') : TwC w0 φ0 φ' b4 b5 cs ds w' := ⟨h.x.call hi, h.y.call hi, h.ne⟩
theorem TwC.callB (h : TwC w0 φ0 φ b4 b5 cs ds W) (hb : Below W.heap.size W w') : TwC w0 φ0 φ b4 b5 cs ds w' := ⟨h.x.callB hb, h.y.callB hb, h.ne⟩
theorem TwC.set1 (h : TwC w0 φ0 φ b4 b5 cs ds W) (j : Nat) (u : Value) : TwC w0 φ0 φ b4 b5 (cs.setIfInBounds j u) ds (W.setCell ⟨b4, j, none⟩ u) := ⟨h.x.set j u, h.y.oth h.x h.ne j u, h.ne⟩
theorem TwC.set2 (h : TwC w0 φ0 φ b4 b5 cs ds W) (j : Nat) (u : Value) : TwC w0 φ0 φ b4 b5 cs (ds.setIfInBounds j u) (W.setCell ⟨b5, j, none⟩ u) := ⟨h.x.oth h.y h.ne.symm j u, h.y.set j u, h.ne⟩
theorem TwC.put1 (h : TwC w0 φ0 φ b4 b5 cs ds W) (u0 u1 u2 : Value) : TwC w0 φ0 φ b4 b5 (((cs.setIfInBounds 0 u0).setIfInBounds 1 u1).setIfInBounds 2 u2) ds (((W.setCell ⟨b4, 0, none⟩ u0).setCell ⟨b4, 1, none⟩ u1).setCell ⟨b4, 2, none⟩ u2) := ((h.set1 0 u0).set1 1 u1).set1 2 u2
theorem TwC.put2 (h : TwC w0 φ0 φ b4 b5 cs ds W) (u0 u1 u2 : Value) : TwC w0 φ0 φ b4 b5 cs (((ds.setIfInBounds 0 u0).setIfInBounds 1 u1).setIfInBounds 2 u2) (((W.setCell ⟨b5, 0, none⟩ u0).setCell ⟨b5, 1, none⟩ u1).setCell ⟨b5, 2, none⟩ u2) := ((h.set2 0 u0).set2 1 u1).set2 2 u2
end
/-- What two ratios' fractions are. -/
def TwoP (x y : Rat) (N D : Nat) (φ : Phi) (w : World) (e : Ending) (w' : World) : Prop :=
  ∃ (g1 : Bool) (a1 : Option Addr) (k1 c1 : Nat) (a2 : Option Addr) (k2 c2 : Nat) (g2 : Bool) (a3 : Option Addr) (k3 c3 : Nat) (a4 : Option Addr) (k4 c4 : Nat) (φ' : Phi),
    e = .returned (.tuple #[.agg #[.bool g1, .slice a1 k1 c1, .slice a2 k2 c2], .agg #[.bool g2, .slice a3 k3 c3, .slice a4 k4 c4], .int .i64 0]) ∧ Inv w.heap.size w φ φ' w' ∧
    FfX φ' (.agg #[.bool g1, .slice a1 k1 c1, .slice a2 k2 c2]) x N D ∧ FfX φ' (.agg #[.bool g2, .slice a3 k3 c3, .slice a4 k4 c4]) y N D
theorem FfX.leC {φ : Phi} {v : Value} {x : Rat} {N D N' D' : Nat} (h : FfX φ v x N D) (hN : N ≤ N') (hD : D ≤ D') : FfX φ v x N' D' := by
  obtain ⟨g, n, d, a1, c1, a2, c2, rfl, s1, s2, h0, h1, h2, h3⟩ := h
  exact ⟨g, n, d, a1, c1, a2, c2, rfl, s1, s2, h0, Nat.le_trans h1 hN, Nat.le_trans h2 hD, h3⟩
theorem ratF_dims {s t : ByteArray} (h : ratF s t = 0) : dV (bodyB s).data.toList ≤ p10 2000 ∧ dV t.data.toList ≤ p10 2000 := by
  have h1 : ¬ (2000 < (bodyB s).size ∨ 2000 < t.size) := fun h1 => absurd ((ratF_large h1).symm.trans h) (by decide)
  have h2 : forP s t := Classical.byContradiction (fun h2 => absurd ((ratF_form h1 h2).symm.trans h) (by decide))
  have h3 := dV_lt h2.1.2.1
  have h4 := dV_lt h2.2.1.2.1
  exact ⟨Nat.le_trans (Nat.le_of_lt h3) (p10_mono (show (bodyB s).data.toList.length ≤ 2000 from (by omega : (bodyB s).size ≤ 2000))), Nat.le_trans (Nat.le_of_lt h4) (p10_mono (show t.data.toList.length ≤ 2000 from (by omega : t.size ≤ 2000)))⟩
set_option maxRecDepth 100000 in
set_option maxHeartbeats 4000000 in
theorem two_any {M : Nat} (hD : Hid (DivOk M)) (hM2 : p10 2000 ≤ M) {s1 t1 s2 t2 : ByteArray} (hs : Hid (s1.size ≤ 9223372036854775807 ∧ t1.size ≤ 9223372036854775807 ∧ s2.size ≤ 9223372036854775807 ∧ t2.size ≤ 9223372036854775807)) {x y : Rat} (h1 : Hid (ratF s1 t1 = 0 ∧ ratX s1 t1 = x)) (h2 : Hid (ratF s2 t2 = 0 ∧ ratX s2 t2 = y)) {N : Nat} (hN : Hid (p10 2000 = N)) {w : World} {φ : Phi} (hφ : Fz φ w) :
    Calls Tryz.prog 156 #[.agg #[.string s1, .string t1], .agg #[.string s2, .string t2]] w (TwoP x y N N φ w) := by
  have HM2 := Lib.hid hM2
  obtain ⟨φ1, hle1, hi1, hb1⟩ := (Inv.start hφ).frz (.cells #[.string s1, .string t1] 33)
  obtain ⟨φ2, hle2, hi2, hb2⟩ := hi1.frz (.cells #[.string s2, .string t2] 33)
  have hx0 := RsSt.start hi2 #[.bool false, .slice none 0 0, .slice none 0 0] 203
  have hT0 : Hid (TwC w φ φ2 (w.heap.size + 1 + 1) (w.heap.size + 1 + 1 + 1) #[.bool false, .slice none 0 0, .slice none 0 0] #[.bool false, .slice none 0 0, .slice none 0 0] ((((w.alloc (.cells #[.string s1, .string t1] 33)).alloc (.cells #[.string s2, .string t2] 33)).alloc (.cells #[.bool false, .slice none 0 0, .slice none 0 0] 203)).alloc (.cells #[.bool false, .slice none 0 0, .slice none 0 0] 203))) := Lib.hid (by
    have hx1 := hx0.callB ((Below.refl _ _).alloc (Nat.le_refl _) (.cells #[.bool false, .slice none 0 0, .slice none 0 0] 203))
    have hy1 := RsSt.start hx0.inv #[.bool false, .slice none 0 0, .slice none 0 0] 203
    simp only [alloc_sz] at hx1 hy1
    exact ⟨hx1, hy1, by omega⟩)
  rw [alloc_sz] at hb2
  have HB1 := Lib.hid (hle2 _ _ hb1)
  have HB2 := Lib.hid hb2
  clear hle1 hle2 hi1 hi2 hb1 hb2 hφ hx0 hM2
  go_enter Tryz.func156, Tryz.ntmps156
  go_upto_region 1 with fail
  generalize ((((w.alloc (.cells #[.string s1, .string t1] 33)).alloc (.cells #[.string s2, .string t2] 33)).alloc (.cells #[.bool false, .slice none 0 0, .slice none 0 0] 203)).alloc (.cells #[.bool false, .slice none 0 0, .slice none 0 0] 203)) = wa at *
  obtain ⟨bb, hbb⟩ : ∃ b, w.heap.size = b := ⟨_, rfl⟩
  have HBB := Lib.hid hbb
  rw [hbb] at HB1 HB2 hT0 ⊢
  clear hbb
  have LR := Lib.hid φ2.le_refl
  have hbox := Lib.hid (fun (ψ : Phi) (W : World) (hf : Fz ψ W) (hl : φ2.le ψ) => (⟨box_cell HB1.out hl hf 0, box_cell HB1.out hl hf 1, box_cell HB2.out hl hf 0, box_cell HB2.out hl hf 1⟩ : W.cell? ⟨bb, 0, none⟩ = some (.string s1) ∧ W.cell? ⟨bb, 1, none⟩ = some (.string t1) ∧ W.cell? ⟨bb + 1, 0, none⟩ = some (.string s2) ∧ W.cell? ⟨bb + 1, 1, none⟩ = some (.string t2)))
  obtain ⟨y0, y1, y2, y3⟩ := hbox.out φ2 wa hT0.out.x.inv.fz φ2.le_refl
  go_upto_region 2 with (go_at_call 221; (with_reducible refine (fracOf_any hD HM2.out hs.out.1 hs.out.2.1 hT0.out.x.inv.fz).mono ?_); rintro e w1 ⟨v, f, φ3, rfl, hf, hi3, hV, g1, a1, k1, c1, a2, k2, c2, rfl⟩; obtain rfl : f = 0 := hf.trans h1.out.1; have HV1 := Lib.hid (hV rfl); have T1 := Lib.hid (hT0.out.call hi3); have L3 := Lib.hid hi3.le; clear hf hi3 hV; have r0 : w1.cell? ⟨bb + 1 + 1, 0, none⟩ = some (.bool false) := T1.out.x.k.cell 0; have r1 : w1.cell? ⟨bb + 1 + 1, 1, none⟩ = some (.slice none 0 0) := T1.out.x.k.cell 1; have r2 : w1.cell? ⟨bb + 1 + 1, 2, none⟩ = some (.slice none 0 0) := T1.out.x.k.cell 2; have r3 := T1.out.x.k.frz 0; have r4 := T1.out.x.k.frz 1; have r5 := T1.out.x.k.frz 2)
  have T2 : Hid (TwC w φ φ3 (bb + 1 + 1) (bb + 1 + 1 + 1) #[.bool g1, .slice a1 k1 c1, .slice a2 k2 c2] #[.bool false, .slice none 0 0, .slice none 0 0] (((w1.setCell ⟨bb + 1 + 1, 0, none⟩ (.bool g1)).setCell ⟨bb + 1 + 1, 1, none⟩ (.slice a1 k1 c1)).setCell ⟨bb + 1 + 1, 2, none⟩ (.slice a2 k2 c2))) := Lib.hid (T1.out.put1 _ _ _)
  clear y0 y1 y2 y3 r0 r1 r2 r3 r4 r5 T1 hT0
  generalize ((w1.setCell ⟨bb + 1 + 1, 0, none⟩ (.bool g1)).setCell ⟨bb + 1 + 1, 1, none⟩ (.slice a1 k1 c1)).setCell ⟨bb + 1 + 1, 2, none⟩ (.slice a2 k2 c2) = w2 at *
  obtain ⟨y0, y1, y2, y3⟩ := hbox.out φ3 w2 T2.out.x.inv.fz L3.out
  go_upto_region 5 with (go_at_call 221; (with_reducible refine (fracOf_any hD HM2.out hs.out.2.2.1 hs.out.2.2.2 T2.out.x.inv.fz).mono ?_); rintro e w3 ⟨v, f, φ4, rfl, hf, hi4, hV, g2, a3, k3, c3, a4, k4, c4, rfl⟩; obtain rfl : f = 0 := hf.trans h2.out.1; have HV2 := Lib.hid (hV rfl); have T3 := Lib.hid (T2.out.call hi4); have L4 := Lib.hid hi4.le; clear hf hi4 hV; have r0 : w3.cell? ⟨bb + 1 + 1 + 1, 0, none⟩ = some (.bool false) := T3.out.y.k.cell 0; have r1 : w3.cell? ⟨bb + 1 + 1 + 1, 1, none⟩ = some (.slice none 0 0) := T3.out.y.k.cell 1; have r2 : w3.cell? ⟨bb + 1 + 1 + 1, 2, none⟩ = some (.slice none 0 0) := T3.out.y.k.cell 2; have r3 := T3.out.y.k.frz 0; have r4 := T3.out.y.k.frz 1; have r5 := T3.out.y.k.frz 2)
  have T4 : Hid (TwC w φ φ4 (bb + 1 + 1) (bb + 1 + 1 + 1) #[.bool g1, .slice a1 k1 c1, .slice a2 k2 c2] #[.bool g2, .slice a3 k3 c3, .slice a4 k4 c4] (((w3.setCell ⟨bb + 1 + 1 + 1, 0, none⟩ (.bool g2)).setCell ⟨bb + 1 + 1 + 1, 1, none⟩ (.slice a3 k3 c3)).setCell ⟨bb + 1 + 1 + 1, 2, none⟩ (.slice a4 k4 c4))) := Lib.hid (T3.out.put2 _ _ _)
  have HV3 := Lib.hid (HV1.out.mono L4.out)
  clear y0 y1 y2 y3 r0 r1 r2 r3 r4 r5 T3 T2 HV1 hbox LR
  generalize ((w3.setCell ⟨bb + 1 + 1 + 1, 0, none⟩ (.bool g2)).setCell ⟨bb + 1 + 1 + 1, 1, none⟩ (.slice a3 k3 c3)).setCell ⟨bb + 1 + 1 + 1, 2, none⟩ (.slice a4 k4 c4) = w4 at *
  have p0 : w4.cell? ⟨bb + 1 + 1, 0, none⟩ = some (.bool g1) := T4.out.x.k.cell 0
  have p1 : w4.cell? ⟨bb + 1 + 1, 1, none⟩ = some (.slice a1 k1 c1) := T4.out.x.k.cell 1
  have p2 : w4.cell? ⟨bb + 1 + 1, 2, none⟩ = some (.slice a2 k2 c2) := T4.out.x.k.cell 2
  have q0 : w4.cell? ⟨bb + 1 + 1 + 1, 0, none⟩ = some (.bool g2) := T4.out.y.k.cell 0
  have q1 : w4.cell? ⟨bb + 1 + 1 + 1, 1, none⟩ = some (.slice a3 k3 c3) := T4.out.y.k.cell 1
  have q2 : w4.cell? ⟨bb + 1 + 1 + 1, 2, none⟩ = some (.slice a4 k4 c4) := T4.out.y.k.cell 2
  have u0 := T4.out.x.k.frz 0
  have u1 := T4.out.x.k.frz 1
  have u2 := T4.out.x.k.frz 2
  have u3 := T4.out.y.k.frz 0
  have u4 := T4.out.y.k.frz 1
  have u5 := T4.out.y.k.frz 2
  have T5 : Hid (TwC w φ φ4 (bb + 1 + 1) (bb + 1 + 1 + 1) #[.bool g1, .slice a1 k1 c1, .slice a2 k2 c2] #[.bool g2, .slice a3 k3 c3, .slice a4 k4 c4] (((((((w4.setCell ⟨bb + 1 + 1, 0, none⟩ (.bool g1)).setCell ⟨bb + 1 + 1, 1, none⟩ (.slice a1 k1 c1)).setCell ⟨bb + 1 + 1, 2, none⟩ (.slice a2 k2 c2)).setCell ⟨bb + 1 + 1 + 1, 0, none⟩ (.bool g2)).setCell ⟨bb + 1 + 1 + 1, 1, none⟩ (.slice a3 k3 c3)).setCell ⟨bb + 1 + 1 + 1, 2, none⟩ (.slice a4 k4 c4)).drew)) := Lib.hid (((T4.out.put1 (.bool g1) (.slice a1 k1 c1) (.slice a2 k2 c2)).put2 (.bool g2) (.slice a3 k3 c3) (.slice a4 k4 c4)).callB (bdrewN (Below.refl _ _) 1))
  obtain ⟨d1, d2⟩ := ratF_dims h1.out.1
  obtain ⟨d3, d4⟩ := ratF_dims h2.out.1
  have HV5 := Lib.hid (HV3.out.leC d1 d2)
  have HV6 := Lib.hid (HV2.out.leC d3 d4)
  rw [h1.out.2, hN.out] at HV5
  rw [h2.out.2, hN.out] at HV6
  clear d1 d2 d3 d4 HV2 HV3 T4
  have hfin : ∀ W' : World, TwC w φ φ4 (bb + 1 + 1) (bb + 1 + 1 + 1) #[.bool g1, .slice a1 k1 c1, .slice a2 k2 c2] #[.bool g2, .slice a3 k3 c3, .slice a4 k4 c4] W' → W'.cell? ⟨bb + 1 + 1, 0, none⟩ = some (.bool g1) ∧ W'.cell? ⟨bb + 1 + 1, 1, none⟩ = some (.slice a1 k1 c1) ∧ W'.cell? ⟨bb + 1 + 1, 2, none⟩ = some (.slice a2 k2 c2) ∧ W'.cell? ⟨bb + 1 + 1 + 1, 0, none⟩ = some (.bool g2) ∧ W'.cell? ⟨bb + 1 + 1 + 1, 1, none⟩ = some (.slice a3 k3 c3) ∧ W'.cell? ⟨bb + 1 + 1 + 1, 2, none⟩ = some (.slice a4 k4 c4) := fun W' h => ⟨h.x.k.cell 0, h.x.k.cell 1, h.x.k.cell 2, h.y.k.cell 0, h.y.k.cell 1, h.y.k.cell 2⟩
  have HFIN := Lib.hid hfin
  clear hfin
  go_region
  all_goals
    go_wp2
    clear p0 p1 p2 q0 q1 q2 u0 u1 u2 u3 u4 u5
    generalize ((((((w4.setCell ⟨bb + 1 + 1, 0, none⟩ (.bool g1)).setCell ⟨bb + 1 + 1, 1, none⟩ (.slice a1 k1 c1)).setCell ⟨bb + 1 + 1, 2, none⟩ (.slice a2 k2 c2)).setCell ⟨bb + 1 + 1 + 1, 0, none⟩ (.bool g2)).setCell ⟨bb + 1 + 1 + 1, 1, none⟩ (.slice a3 k3 c3)).setCell ⟨bb + 1 + 1 + 1, 2, none⟩ (.slice a4 k4 c4)).drew = wz at *
    obtain ⟨e0, e1, e2, e3, e4, e5⟩ := HFIN.out _ T5.out
    (try simp only [Exit.inBlock, Exit.then])
    refine bodyPost_ret (v := .tuple #[.agg #[.bool g1, .slice a1 k1 c1, .slice a2 k2 c2], .agg #[.bool g2, .slice a3 k3 c3, .slice a4 k4 c4], .int .i64 0]) (by simp [results, Tryz.results156, go_sem, e0, e1, e2, e3, e4, e5]) rfl ?_
    exact ⟨g1, a1, k1, c1, a2, k2, c2, g2, a3, k3, c3, a4, k4, c4, φ4, rfl, T5.out.x.inv, HV5.out, HV6.out⟩
end Go.Proofs.YtnlhalnjbkpdnaaGreatDoor

namespace Go.Proofs.YtnlhalnjbkpdnaaGreatDoor
open Go.RowKit
set_option linter.unusedVariables false
set_option linter.unusedSimpArgs false
end Go.Proofs.YtnlhalnjbkpdnaaGreatDoor

namespace Go.Proofs.YtnlhalnjbkpdnaaGreatDoor
open Go.RowKit
set_option linter.unusedVariables false
set_option linter.unusedSimpArgs false
attribute [-instance] repNatI
theorem FfX.openC {φ : Phi} {g : Bool} {a1 a2 : Option Addr} {k1 c1 k2 c2 : Nat} {x : Rat} {N D : Nat} (h : FfX φ (.agg #[.bool g, .slice a1 k1 c1, .slice a2 k2 c2]) x N D) : ∃ (n d : Nat), @SlV Nat instRepNat φ a1 c1 (limbs n) ∧ @SlV Nat instRepNat φ a2 c2 (limbs d) ∧ Hid ((limbs n).length = k1) ∧ Hid ((limbs d).length = k2) ∧ 0 < d ∧ n ≤ N ∧ d ≤ D ∧ rat g n d = x := by
  obtain ⟨g', n, d, p1, p2, a1', c1', a2', c2', he, s1, s2, l1, l2, h0, h1, h2, h3⟩ := h.open
  simp only [Value.agg.injEq, Array.mk.injEq, List.cons.injEq, Value.bool.injEq, Value.slice.injEq, and_true] at he
  obtain ⟨rfl, ⟨rfl, rfl, rfl⟩, rfl, rfl, rfl⟩ := he
  exact ⟨n, d, s1, s2, l1, l2, h0, h1, h2, h3⟩
theorem keepT {w : World} {a : Addr} {v u0 u1 : Value} {g : Nat} (h : w.cell? a = some v) (hne : g ≠ a.block) : ((w.setCell ⟨g, 0, none⟩ u0).setCell ⟨g, 1, none⟩ u1).cell? a = some v := keep1 (keep1 h hne) hne
set_option maxRecDepth 100000 in
set_option maxHeartbeats 4000000 in
theorem Product_any {M : Nat} (hD : Hid (DivOk M)) (hM : LenB M) (hM2 : p10 2000 ≤ M) {s1 t1 s2 t2 : ByteArray} (hs : Hid (s1.size ≤ 9223372036854775807 ∧ t1.size ≤ 9223372036854775807 ∧ s2.size ≤ 9223372036854775807 ∧ t2.size ≤ 9223372036854775807)) {x y : Rat} (h1 : Hid (ratF s1 t1 = 0 ∧ ratX s1 t1 = x)) (h2 : Hid (ratF s2 t2 = 0 ∧ ratX s2 t2 = y)) {N : Nat} (hN : Hid (p10 2000 = N)) (hNM : Hid (N * N ≤ M ∧ N ≤ M)) {w : World} {φ : Phi} (hφ : Fz φ w) (hp : PowP φ) {S T : ByteArray} {F : Int} (hR : Hid (ratR (x * y) = (S, T, F))) :
    Calls Tryz.prog 101 #[.agg #[.string s1, .string t1], .agg #[.string s2, .string t2]] w (fun e w' => e = .returned (.tuple #[.agg #[.string S, .string T], .int .i64 F]) ∧ Below w.heap.size w w') := by
  have HM2 := Lib.hid hM2
  have HP := Lib.hid hp
  obtain ⟨φ1, hle1, hi1, hb1⟩ := (Inv.start hφ).frz (.cells #[.string s1, .string t1] 33)
  obtain ⟨φ2, hle2, hi2, hb2⟩ := hi1.frz (.cells #[.string s2, .string t2] 33)
  have hx0 := RsSt.start hi2 #[.string ⟨#[]⟩, .string ⟨#[]⟩] 33
  have HX0 : Hid (RsSt w φ φ2 (w.heap.size + 1 + 1) #[.string ⟨#[]⟩, .string ⟨#[]⟩] 33 (((w.alloc (.cells #[.string s1, .string t1] 33)).alloc (.cells #[.string s2, .string t2] 33)).alloc (.cells #[.string ⟨#[]⟩, .string ⟨#[]⟩] 33))) := Lib.hid (by simpa only [alloc_sz] using hx0)
  have LL := Lib.hid (hle1.trans hle2)
  clear hi1 hi2 hb1 hb2 hle1 hle2 hx0 hφ hp hM2
  go_enter Tryz.func101, Tryz.ntmps101
  go_upto_region 4 with (go_at_call 156; (with_reducible refine (two_any hD HM2.out hs h1 h2 hN HX0.out.inv.fz).mono ?_); rintro e w1 ⟨g1, a1, k1, c1, a2, k2, c2, g2, a3, k3, c3, a4, k4, c4, φ3, rfl, hi3, hv1, hv2⟩; have HX1 := Lib.hid (HX0.out.call hi3); have L3 := Lib.hid (LL.out.trans hi3.le); have HV1 := Lib.hid hv1; have HV2 := Lib.hid hv2; clear hi3 hv1 hv2)
  obtain ⟨φ4, hle4, hi4, hb4⟩ := (Inv.start HX1.out.inv.fz).frz (.cells #[.bool g1, .slice a1 k1 c1, .slice a2 k2 c2] 203)
  obtain ⟨φ5, hle5, hi5, hb5⟩ := hi4.frz (.cells #[.bool g2, .slice a3 k3 c3, .slice a4 k4 c4] 203)
  rw [alloc_sz] at hb5
  have HB1 := Lib.hid (hle5 _ _ hb4)
  have HB2 := Lib.hid hb5
  have HX2a := Lib.hid (HX1.out.call hi5)
  have L5 := Lib.hid (L3.out.trans (hle4.trans hle5))
  obtain ⟨n1, d1, s1', s2', l1, l2, hd1, hn1, hnd1, hx1⟩ := (HV1.out.mono (hle4.trans hle5)).openC
  obtain ⟨n2, d2, s3', s4', l3, l4, hd2, hn2, hnd2, hx2⟩ := (HV2.out.mono (hle4.trans hle5)).openC
  clear hle4 hle5 hi4 hi5 hb4 hb5 HV1 HV2 L3
  obtain ⟨P, hP⟩ : ∃ P, n1 * n2 = P := ⟨_, rfl⟩
  obtain ⟨Q, hQ⟩ : ∃ Q, d1 * d2 = Q := ⟨_, rfl⟩
  have HR : Hid (ratR (rat (!(g1 == g2)) P Q) = (S, T, F)) := Lib.hid (by have := rat_times (s1 := g1) (s2 := g2) (n1 := n1) (n2 := n2) hd1 hd2; rw [hx1, hx2, hP, hQ] at this; rw [show (!(g1 == g2)) = (g1 != g2) from rfl, this]; exact hR.out)
  have hPM : P ≤ M := by rw [← hP]; exact Nat.le_trans (Nat.mul_le_mul hn1 hn2) hNM.out.1
  have hQM : Q ≤ M := by rw [← hQ]; exact Nat.le_trans (Nat.mul_le_mul hnd1 hnd2) hNM.out.1
  have hQ0 : 0 < Q := by rw [← hQ]; exact Nat.mul_pos hd1 hd2
  have q1 : k1 ≤ 1000000000 := by rw [← l1.out]; exact hM.len (Nat.le_trans hn1 hNM.out.2)
  have q2 : k2 ≤ 1000000000 := by rw [← l2.out]; exact hM.len (Nat.le_trans hnd1 hNM.out.2)
  have q3 : k3 ≤ 1000000000 := by rw [← l3.out]; exact hM.len (Nat.le_trans hn2 hNM.out.2)
  have q4 : k4 ≤ 1000000000 := by rw [← l4.out]; exact hM.len (Nat.le_trans hnd2 hNM.out.2)
  have HPP := Lib.hid hP
  have HQ := Lib.hid hQ
  have S1 := Lib.hid s1'
  have S2 := Lib.hid s2'
  have S3 := Lib.hid s3'
  have S4 := Lib.hid s4'
  have HB := Lib.hid (And.intro hPM (And.intro hQM hQ0))
  clear hP hQ hn1 hn2 hnd1 hnd2 hd1 hd2 hx1 hx2 s1' s2' s3' s4' hPM hQM hQ0
  obtain ⟨kp, hkp⟩ : ∃ k, Hid ((limbs P).length = k) := ⟨_, Lib.hid rfl⟩
  obtain ⟨kq, hkq⟩ : ∃ k, Hid ((limbs Q).length = k) := ⟨_, Lib.hid rfl⟩
  have LT := HX1.out.k.lt
  clear HX1 HX0 LL
  generalize (w1.alloc (.cells #[.bool g1, .slice a1 k1 c1, .slice a2 k2 c2] 203)).alloc (.cells #[.bool g2, .slice a3 k3 c3, .slice a4 k4 c4] 203) = wx at *
  obtain ⟨bb, hbb⟩ : ∃ b, w1.heap.size = b := ⟨_, rfl⟩
  obtain ⟨rr, hrr⟩ : ∃ b, w.heap.size + 1 + 1 = b := ⟨_, rfl⟩
  rw [hbb] at HB1 HB2 LT ⊢
  rw [hrr] at HX2a LT ⊢
  have HX2 : Hid (RsSt w φ φ5 rr #[.string ⟨#[]⟩, .string ⟨#[]⟩] 33 wx.drew) := Lib.hid (HX2a.out.callB (bdrewN (Below.refl _ wx) 1))
  clear HX2a
  have LTH := Lib.hid LT
  clear hbb hrr LT
  have hbox := Lib.hid (fun (φ3 : Phi) (W : World) (hl : φ5.le φ3) (h : Hid (RsSt w φ φ3 rr #[.string ⟨#[]⟩, .string ⟨#[]⟩] 33 W)) => and6 (box3 HB1.out hl h.out.inv.fz) (box3 HB2.out hl h.out.inv.fz))
  obtain ⟨x0, x1, x2, x3, x4, x5⟩ := hbox.out _ _ φ5.le_refl HX2
  go_region_held3 (fun w' => w'.cell? ⟨bb, 0, none⟩ = some (.bool g1) ∧ w'.cell? ⟨bb, 1, none⟩ = some (.slice a1 k1 c1) ∧ w'.cell? ⟨bb, 2, none⟩ = some (.slice a2 k2 c2) ∧ w'.cell? ⟨bb + 1, 0, none⟩ = some (.bool g2) ∧ w'.cell? ⟨bb + 1, 1, none⟩ = some (.slice a3 k3 c3) ∧ w'.cell? ⟨bb + 1, 2, none⟩ = some (.slice a4 k4 c4)) (first | with_reducible exact ⟨x0, x1, x2, x3, x4, x5⟩ | with_reducible exact ⟨by assumption, by assumption, by assumption, by assumption, by assumption, by assumption⟩ | exact ⟨keepT (by with_reducible assumption) (show rr ≠ bb from Nat.ne_of_lt LTH.out), keepT (by with_reducible assumption) (show rr ≠ bb from Nat.ne_of_lt LTH.out), keepT (by with_reducible assumption) (show rr ≠ bb from Nat.ne_of_lt LTH.out), keepT (by with_reducible assumption) (show rr ≠ bb + 1 from Nat.ne_of_lt (Nat.lt_succ_of_lt LTH.out)), keepT (by with_reducible assumption) (show rr ≠ bb + 1 from Nat.ne_of_lt (Nat.lt_succ_of_lt LTH.out)), keepT (by with_reducible assumption) (show rr ≠ bb + 1 from Nat.ne_of_lt (Nat.lt_succ_of_lt LTH.out))⟩) (first
    | ((with_reducible refine (ratio_any hD hM H4.out.inv.fz (HP.out.mono (L5.out.trans (L3.out.trans L4.out))) (SP.out.mono L4.out) SQ.out hkp hkq HB.out.1 HB.out.2.1 HB.out.2.2 HR).mono ?_); rintro e w5 ⟨rfl, hb5⟩; have H5 := Lib.hid (H4.out.callB hb5); obtain ⟨y0, y1, y2, y3, y4, y5⟩ := hbox.out _ _ (L3.out.trans L4.out) H5; have z0 : w5.cell? ⟨rr, 0, none⟩ = some (.string ⟨#[]⟩) := H5.out.k.cell 0; have z1 : w5.cell? ⟨rr, 1, none⟩ = some (.string ⟨#[]⟩) := H5.out.k.cell 1; have z2 := H5.out.k.frz 0; have z3 := H5.out.k.frz 1)
    | ((with_reducible refine (times_any (m := d1) (n := d2) H3.out.inv.fz (S2.out.mono L3.out) (S4.out.mono L3.out) l2 l4 (by omega) (by omega)).mono ?_); rintro e w4 ⟨a6, c6, φ7, rfl, hi7, hs7⟩; rw [HQ.out, hkq.out]; rw [HQ.out] at hs7; have H4 := Lib.hid (H3.out.call hi7); have L4 := Lib.hid hi7.le; have SQ := Lib.hid hs7; obtain ⟨y0, y1, y2, y3, y4, y5⟩ := hbox.out _ _ (L3.out.trans L4.out) H4)
    | ((with_reducible refine (times_any (m := n1) (n := n2) HX2.out.inv.fz S1.out S3.out l1 l3 (by omega) (by omega)).mono ?_); rintro e w3 ⟨a5, c5, φ6, rfl, hi6, hs6⟩; rw [HPP.out, hkp.out]; rw [HPP.out] at hs6; have H3 := Lib.hid (HX2.out.call hi6); have L3 := Lib.hid hi6.le; have SP := Lib.hid hs6; obtain ⟨y0, y1, y2, y3, y4, y5⟩ := hbox.out _ _ L3.out H3))
  have hZ := Lib.hid ((H5.out.set 0 (.string S)).set 1 (.string T))
  clear x0 x1 x2 x3 x4 x5 y0 y1 y2 y3 y4 y5 z0 z1 z2 z3 H3 H4 H5
  generalize (w5.setCell ⟨rr, 0, none⟩ (.string S)).setCell ⟨rr, 1, none⟩ (.string T) = wz at *
  go_wp2
  have e0 : wz.cell? ⟨rr, 0, none⟩ = some (Value.string S) := hZ.out.k.cell 0
  have e1 : wz.cell? ⟨rr, 1, none⟩ = some (Value.string T) := hZ.out.k.cell 1
  (try simp only [Exit.inBlock, Exit.then])
  refine bodyPost_ret (v := .tuple #[.agg #[.string S, .string T], .int .i64 F]) (by simp [results, Tryz.results101, go_sem, e0, e1]) rfl ?_
  exact ⟨rfl, hZ.out.inv.bel⟩
end Go.Proofs.YtnlhalnjbkpdnaaGreatDoor
