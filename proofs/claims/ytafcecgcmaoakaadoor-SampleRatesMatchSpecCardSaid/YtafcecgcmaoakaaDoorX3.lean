/- The walk of the reference's rate. Conditions: the library's table of powers of ten reads as it was laid. -/
import Derived.Test.YtafcecgcmaoakaaDoorB12
import Derived.Test.YtafcecgcmaoakaaDoorX1
namespace Go.Proofs.YtafcecgcmaoakaaDoor
open Go.RowKit
set_option linter.unusedVariables false
theorem Rdiv_one_hh : Hid (RdivOk 999999999) := Lib.hid Rdiv_one
theorem lenB_oneR : LenB 999999999 := by have := len_le1 (n := 999999999) (Nat.le_refl _); unfold LenB; omega
/-- A result's cell, what is frozen, and perhaps a new cell. -/
structure RqS (w0 : World) (φ0 φ1 φ : Phi) (b : Nat) (o : Option Nat) (W : World) : Prop where
  rs : RsSt w0 φ0 φ b #[.string ⟨#[]⟩, .string ⟨#[]⟩] 34 W
  le : φ1.le φ
  o : ∀ x, o = some x → RsSt w0 φ0 φ x #[.string ⟨#[]⟩, .string ⟨#[]⟩] 34 W ∧ b < x
section
variable {w0 W w' : World} {φ0 φ1 φ φ' : Phi} {b x : Nat} {o : Option Nat}
theorem RqS.call (h : RqS w0 φ0 φ1 φ b o W) (hi : Inv W.heap.size W φ φ' w') : RqS w0 φ0 φ1 φ' b o w' := ⟨h.rs.call hi, h.le.trans hi.le, fun x hx => ⟨(h.o x hx).1.call hi, (h.o x hx).2⟩⟩
theorem RqS.callB (h : RqS w0 φ0 φ1 φ b o W) (hb : Below W.heap.size W w') : RqS w0 φ0 φ1 φ b o w' := ⟨h.rs.callB hb, h.le, fun x hx => ⟨(h.o x hx).1.callB hb, (h.o x hx).2⟩⟩
theorem RqS.al (h : Hid (RqS w0 φ0 φ1 φ b none W)) : Hid (RqS w0 φ0 φ1 φ b (some W.heap.size) (W.alloc (.cells #[.string ⟨#[]⟩, .string ⟨#[]⟩] 34))) := by
  refine Lib.hid ⟨h.out.rs.callB ((Below.refl _ _).alloc (Nat.le_refl _) _), h.out.le, fun x hx => ?_⟩
  cases hx
  exact ⟨RsSt.start h.out.rs.inv _ _, h.out.rs.k.lt⟩
theorem RqS.alD (h : Hid (RqS w0 φ0 φ1 φ b none W)) : Hid (RqS w0 φ0 φ1 φ b (some W.heap.size) (W.alloc (.cells #[.string ⟨#[]⟩, .string ⟨#[]⟩] 34)).drew) := Lib.hid ((RqS.al h).out.callB (bdrewN (Below.refl _ _) 1))
theorem RqS.facts (h : Hid (RqS w0 φ0 φ1 φ b (some x) W)) : W.cell? ⟨x, 0, none⟩ = some (.string ⟨#[]⟩) ∧ W.cell? ⟨x, 1, none⟩ = some (.string ⟨#[]⟩) ∧ W.frozen? ⟨x, 0, none⟩ = false ∧ W.frozen? ⟨x, 1, none⟩ = false ∧ b < x :=
  have k := (h.out.o x rfl).1.k
  ⟨k.cell 0, k.cell 1, k.frz 0, k.frz 1, (h.out.o x rfl).2⟩
/-- Both texts stand in the new cell. -/
theorem RqS.put {s t : ByteArray} (h : Hid (RqS w0 φ0 φ1 φ b (some x) W)) : Hid (RsSt w0 φ0 φ b #[.string ⟨#[]⟩, .string ⟨#[]⟩] 34 ((W.setCell ⟨x, 0, none⟩ (.string s)).setCell ⟨x, 1, none⟩ (.string t)) ∧ RsSt w0 φ0 φ x #[.string s, .string t] 34 ((W.setCell ⟨x, 0, none⟩ (.string s)).setCell ⟨x, 1, none⟩ (.string t)) ∧ b < x) := by
  obtain ⟨k, n1⟩ := h.out.o x rfl
  have k1 := k.set 0 (.string s)
  have k2 := k1.set 1 (.string t)
  exact Lib.hid ⟨(h.out.rs.oth k (by omega) 0 _).oth k1 (by omega) 1 _, k2, n1⟩
/-- The same, where the cell is made last. -/
theorem RqS.putNew {s t : ByteArray} (h : Hid (RqS w0 φ0 φ1 φ b none W)) : Hid (RsSt w0 φ0 φ b #[.string ⟨#[]⟩, .string ⟨#[]⟩] 34 (W.alloc (.cells #[.string s, .string t] 34)) ∧ RsSt w0 φ0 φ W.heap.size #[.string s, .string t] 34 (W.alloc (.cells #[.string s, .string t] 34)) ∧ b < W.heap.size) :=
  Lib.hid ⟨h.out.rs.callB ((Below.refl _ _).alloc (Nat.le_refl _) _), RsSt.start h.out.rs.inv _ _, h.out.rs.k.lt⟩
theorem Whole_Q {a : Int} (h0 : 0 ≤ a) (h1 : a ≤ 999999999) (h : Hid (RqS w0 φ0 φ1 φ b o W)) :
    Calls Tryd.prog 30 #[.int .i64 a] W (fun e w' => ∃ v φ', e = .returned v ∧ Hid (RqS w0 φ0 φ1 φ' b o w') ∧ Hid (FrX φ' v (a : Rat) a.natAbs 1) ∧ Hid (φ.le φ')) := by
  refine (RWhole_any (by omega) (by omega) h.out.rs.inv.fz).mono ?_
  rintro e w' ⟨v, φ', rfl, hi, hv⟩
  exact ⟨v, φ', rfl, Lib.hid (h.out.call hi), Lib.hid hv, Lib.hid hi.le⟩
theorem Over_Q {v1 v2 : Value} {x y : Rat} {N1 D1 N2 D2 : Nat} (hv1 : Hid (FrX φ v1 x N1 D1)) (hv2 : Hid (FrX φ v2 y N2 D2)) (hy : y ≠ 0) (hM1 : N1 * D2 ≤ 999999999) (hM2 : D1 * N2 ≤ 999999999) (hM3 : D2 ≤ 999999999) (h : Hid (RqS w0 φ0 φ1 φ b o W)) :
    Calls Tryd.prog 58 #[v1, v2] W (fun e w' => ∃ v φ', e = .returned v ∧ Hid (RqS w0 φ0 φ1 φ' b o w') ∧ Hid (FrX φ' v (x / y) (N1 * D2) (D1 * N2)) ∧ Hid (φ.le φ')) := by
  refine (ROver_any Rdiv_one_hh lenB_oneR h.out.rs.inv.fz hv1.out hv2.out hy hM1 hM2 hM3).mono ?_
  rintro e w' ⟨v, φ', rfl, hi, hv⟩
  exact ⟨v, φ', rfl, Lib.hid (h.out.call hi), Lib.hid hv, Lib.hid hi.le⟩
theorem Ratio_Q {v : Value} {x : Rat} {N D : Nat} (hp : PowP φ) (hv : Hid (FrX φ v x N D)) (hN : N ≤ 999999999) (hD : D ≤ 999999999) {S T : ByteArray} {F : Int} (hR : Hid (ratR x = (S, T, F))) (h : Hid (RqS w0 φ0 φ1 φ b o W)) :
    Calls Tryd.prog 39 #[v] W (fun e w' => e = .returned (.tuple #[.agg #[.string S, .string T], .int .i64 F]) ∧ Hid (RqS w0 φ0 φ1 φ b o w')) := by
  refine (RRatio_any Rdiv_one_hh lenB_oneR h.out.rs.inv.fz hp hv.out hN hD hR).mono ?_
  rintro e w' ⟨rfl, hb⟩
  exact ⟨rfl, Lib.hid (h.out.callB hb)⟩
end
/-- A region whose ways end in one state, but for an index. -/
theorem wp_region_cutT {ι : Type} {P : Program} {id : Nat} {ops : Array Oper} {b : Bool} {Q : Exit → Act → World → Prop} {a : Act} {w : World} (fr : ι → Act) (S : ι → World → Prop) (h1 : (Code.region id ops b).wp P (OnlyN fun a' w' => ∃ x, a' = fr x ∧ S x w') a w) (h2 : ∀ x w, S x w → Q .normal (fr x) w) : (Code.region id ops b).wp P Q a w :=
  Code.wp_mono (fun e a w h => by
    cases e <;> first | exact h.elim | (obtain ⟨x, rfl, hs⟩ := (h : ∃ x, a = fr x ∧ S x w); exact h2 x w hs)) h1
theorem ratR_zero : ratR 0 = (⟨#[48]⟩, ⟨#[49]⟩, 0) := by
  have h0 : decB 0 = ⟨#[48]⟩ := by rw [decB, dec_lt (by omega)]; rfl
  have h1 : decB 1 = ⟨#[49]⟩ := by rw [decB, dec_lt (by omega)]; rfl
  unfold ratR
  rw [show (0 : Rat).num.natAbs = 0 from rfl, show (0 : Rat).den = 1 from rfl, h0, h1, if_neg (by decide), if_neg (by decide)]
set_option maxRecDepth 100000 in
set_option maxHeartbeats 4000000 in
theorem Rrate_any {a : Int} (h0 : 0 ≤ a) (h1 : a ≤ 999999999) {v : Value} {y : Rat} {N D : Nat} {w : World} {φ : Phi} (hφ : Fz φ w) (hp : PowP φ) (hv : FrX φ v y N D) (hN : N ≤ 999999999) (hD : D ≤ 999999999) (hM : a.natAbs * D ≤ 999999999) {S T : ByteArray} {F : Int} (hR : Hid (ratR ((a : Rat) / y) = (S, T, F))) :
    Calls Tryd.prog 33 #[.int .i64 a, v] w (fun e w' => e = .returned (.agg #[.string S, .string T]) ∧ Below w.heap.size w w') := by
  obtain ⟨neg, n, d, k1, k2, a1, c1, a2, c2, rfl, s1, s2, l1, l2, hd0, hnN, hdD, hx⟩ := hv.open
  obtain ⟨φ1, hle1, hi1, hb1⟩ := (Inv.start hφ).frz (.cells #[.bool neg, .slice a1 k1 c1, .slice a2 k2 c2] 68)
  have hRS := RsSt.start hi1 #[.string ⟨#[]⟩, .string ⟨#[]⟩] 34
  rw [alloc_sz] at hRS
  have HV := Lib.hid (hv.mono hle1)
  have HP := Lib.hid (hp.mono hle1)
  have HB := Lib.hid hb1
  obtain ⟨bx, hbx⟩ : ∃ b, w.heap.size = b := ⟨_, rfl⟩
  rw [hbx] at HB hRS
  have hQ0 : Hid (RqS w φ φ1 φ1 (bx + 1) none _) := Lib.hid ⟨hRS, φ1.le_refl, fun x hx => by cases hx⟩
  clear hi1 hb1 hRS hφ hp hv s1 s2 hle1 hx
  go_enter Tryd.func33, Tryd.ntmps33
  by_cases hy : y = 0
  · have hq : Hid (S = ⟨#[48]⟩ ∧ T = ⟨#[49]⟩) := Lib.hid (by
      have e := hR.out
      rw [hy, Rat.div_def, Rat.inv_zero, Rat.mul_zero, ratR_zero] at e
      cases e; exact ⟨rfl, rfl⟩)
    have hyb : Hid (decide (y = 0) = true) := Lib.hid (decide_eq_true hy)
    go_wp2_with (go_at_call 57; refine (RZero_any hQ0.out.rs.inv.fz HV.out hyb).mono ?_; rintro e w2 ⟨rfl, hb2⟩; have H2 := Lib.hid (hQ0.out.rs.callB hb2); have r0 : w2.cell? ⟨bx + 1, 0, none⟩ = some (.string ⟨#[]⟩) := H2.out.k.cell 0; have r1 : w2.cell? ⟨bx + 1, 1, none⟩ = some (.string ⟨#[]⟩) := H2.out.k.cell 1; have r2 := H2.out.k.frz 0; have r3 := H2.out.k.frz 1)
    have hZ := Lib.hid ((H2.out.set 0 (.string ⟨#[48]⟩)).set 1 (.string ⟨#[49]⟩))
    have e0 : _ = some (Value.string ⟨#[48]⟩) := hZ.out.k.cell 0
    have e1 : _ = some (Value.string ⟨#[49]⟩) := hZ.out.k.cell 1
    (try simp only [Exit.inBlock, Exit.then])
    refine bodyPost_ret (v := .agg #[.string ⟨#[48]⟩, .string ⟨#[49]⟩]) (by simp [results, Tryd.results33, go_sem, e0, e1]) rfl ?_
    exact ⟨by rw [hq.out.1, hq.out.2], hZ.out.inv.bel⟩
  · have hyb : Hid (decide (y = 0) = false) := Lib.hid (decide_eq_false hy)
    go_wp2_with (go_at_call 57; refine (RZero_any hQ0.out.rs.inv.fz HV.out hyb).mono ?_; rintro e w2 ⟨rfl, hb2⟩; have hQ2 := Lib.hid (hQ0.out.callB hb2))
    have HY := Lib.hid hy
    clear hQ0 hy
    have hQd : Hid (RqS w φ φ1 φ1 (bx + 1) none w2.drew) := Lib.hid (hQ2.out.callB (bdrewN (Below.refl _ w2) 1))
    have hbox := Lib.hid (fun (φ3 : Phi) (o : Option Nat) (W : World) (h : Hid (RqS w φ φ1 φ3 (bx + 1) o W)) => (⟨box_cell HB.out h.out.le h.out.rs.inv.fz 0, box_cell HB.out h.out.le h.out.rs.inv.fz 1, box_cell HB.out h.out.le h.out.rs.inv.fz 2⟩ : W.cell? ⟨bx, 0, none⟩ = some (.bool neg) ∧ W.cell? ⟨bx, 1, none⟩ = some (.slice a1 k1 c1) ∧ W.cell? ⟨bx, 2, none⟩ = some (.slice a2 k2 c2)))
    obtain ⟨y0, y1, y2⟩ := hbox.out _ _ _ hQ2
    have nn : a.natAbs * D ≤ 999999999 := hM
    apply wp_region_cutT (fr := fun (x : Nat × Value × Value) => { tmps := #[.int .i64 a, .agg #[.bool neg, .slice a1 k1 c1, .slice a2 k2 c2], undef, .pointer (some ⟨bx, 0, none⟩), .pointer (some ⟨bx + 1, 0, none⟩), .pointer (some ⟨x.1, 0, none⟩), .int .i64 F, .agg #[.bool neg, .slice a1 k1 c1, .slice a2 k2 c2], .bool false, undef, .tuple #[.agg #[.string S, .string T], .int .i64 F], .int .i64 a, x.2.1, .agg #[.bool neg, .slice a1 k1 c1, .slice a2 k2 c2], x.2.2, .tuple #[.agg #[.string S, .string T], .int .i64 F], .agg #[.string S, .string T], .int .i64 F, undef], defers := [] })
      (S := fun x W => ∃ φ9, Hid (RsSt w φ φ9 (bx + 1) #[.string ⟨#[]⟩, .string ⟨#[]⟩] 34 W ∧ RsSt w φ φ9 x.1 #[.string S, .string T] 34 W ∧ bx + 1 < x.1))
    case h1 =>
      go_region_held3 (fun w' => w'.cell? ⟨bx, 0, none⟩ = some (.bool neg) ∧ w'.cell? ⟨bx, 1, none⟩ = some (.slice a1 k1 c1) ∧ w'.cell? ⟨bx, 2, none⟩ = some (.slice a2 k2 c2)) (first | with_reducible exact ⟨by assumption, by assumption, by assumption⟩ | with_reducible exact ⟨keepA (by assumption), keepA (by assumption), keepA (by assumption)⟩ | with_reducible exact ⟨keep2 (by assumption) (by show _ ≠ bx; omega), keep2 (by assumption) (by show _ ≠ bx; omega), keep2 (by assumption) (by show _ ≠ bx; omega)⟩ | exact ⟨y0, y1, y2⟩ | exact ⟨keepA y0, keepA y1, keepA y2⟩) (first
        | ((with_reducible refine (Ratio_Q (HP.out.mono (hX5.out.le)) hv5 (by omega) (by omega) hR (by first | assumption | exact RqS.al (by assumption))).mono ?_); rintro e w6 ⟨rfl, hX6⟩; obtain ⟨u0, u1, u2⟩ := hbox.out _ _ _ hX6; (try obtain ⟨v0, v1, v2, v3, v4⟩ := RqS.facts hX6))
        | ((with_reducible refine (Over_Q hv4 (Lib.hid (HV.out.mono hX4.out.le)) HY.out (by omega) (by omega) (by omega) (by first | assumption | exact RqS.al (by assumption))).mono ?_); rintro e w5 ⟨v5, φ5, rfl, hX5, hv5, hl5⟩; obtain ⟨u0, u1, u2⟩ := hbox.out _ _ _ hX5; (try obtain ⟨v0, v1, v2, v3, v4⟩ := RqS.facts hX5))
        | ((with_reducible refine (Whole_Q h0 h1 (by first | assumption | exact RqS.al (by assumption) | exact RqS.alD hQ2)).mono ?_); rintro e w4 ⟨v4, φ4, rfl, hX4, hv4, hl4⟩; obtain ⟨u0, u1, u2⟩ := hbox.out _ _ _ hX4; (try obtain ⟨v0, v1, v2, v3, v4⟩ := RqS.facts hX4)))
      all_goals first
        | exact onlyN_mk ⟨(_, _, _), rfl, _, RqS.put (by assumption)⟩
        | exact onlyN_mk ⟨(_, _, _), rfl, _, RqS.putNew (by assumption)⟩
    case h2 =>
      rintro ⟨x, v8, v9⟩ W9 ⟨φ9, hF9⟩
      obtain ⟨hFF, hXX, ne1⟩ := hF9.out
      have HFF := Lib.hid hFF
      have p1 : W9.cell? ⟨x, 0, none⟩ = some (.string S) := hXX.k.cell 0
      have p2 : W9.cell? ⟨x, 1, none⟩ = some (.string T) := hXX.k.cell 1
      have r0 : W9.cell? ⟨bx + 1, 0, none⟩ = some (.string ⟨#[]⟩) := hFF.k.cell 0
      have r1 : W9.cell? ⟨bx + 1, 1, none⟩ = some (.string ⟨#[]⟩) := hFF.k.cell 1
      have r2 := hFF.k.frz 0
      have r3 := hFF.k.frz 1
      clear hF9 hFF hXX y0 y1 y2 hQd hQ2
      go_wp2
      have hZ := Lib.hid ((HFF.out.set 0 (.string S)).set 1 (.string T))
      have e0 : _ = some (Value.string S) := hZ.out.k.cell 0
      have e1 : _ = some (Value.string T) := hZ.out.k.cell 1
      (try simp only [Exit.inBlock, Exit.then])
      refine bodyPost_ret (v := .agg #[.string S, .string T]) (by simp [results, Tryd.results33, go_sem, e0, e1]) rfl ?_
      exact ⟨rfl, hbx ▸ hZ.out.inv.bel⟩
end Go.Proofs.YtafcecgcmaoakaaDoor
