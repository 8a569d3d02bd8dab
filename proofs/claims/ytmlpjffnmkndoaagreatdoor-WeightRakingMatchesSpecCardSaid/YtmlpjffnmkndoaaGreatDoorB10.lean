/- The reference's exact numbers: the walk of Ratio. Conditions: the library's table of powers of ten reads as it was laid. -/
import Derived.Test.YtmlpjffnmkndoaaGreatDoorB9
import Derived.Test.YtmlpjffnmkndoaaGreatDoorPB
import Derived.Test.YtmlpjffnmkndoaaGreatDoorLB
import Derived.Deep.RegionHeld3
namespace Go.Proofs.YtmlpjffnmkndoaaGreatDoor
open Go.RowKit
set_option linter.unusedVariables false
set_option linter.unusedSimpArgs false
/-- A region whose ways end in one state, but for one address. -/
theorem wp_region_cut1 {P : Program} {id : Nat} {ops : Array Oper} {b : Bool} {Q : Exit → Act → World → Prop} {a : Act} {w : World} (fr : Nat → Act) (S : Nat → World → Prop) (h1 : (Code.region id ops b).wp P (OnlyN fun a' w' => ∃ x, a' = fr x ∧ S x w') a w) (h2 : ∀ x w, S x w → Q .normal (fr x) w) : (Code.region id ops b).wp P Q a w :=
 Code.wp_mono (fun e a w h => by
  cases e <;> first | exact h.elim | (obtain ⟨x, rfl, hs⟩ := (h : ∃ x, a = fr x ∧ S x w); exact h2 x w hs)) h1
/-- A box, a result's cell, and perhaps a new cell. -/
structure RtS (w0 : World) (φ0 φ : Phi) (b : Nat) (cs : Array Value) (T : TypeId) (g : Nat) (ds : Array Value) (E : TypeId) (o : Option Nat) (W : World) : Prop where
 f : Fr2 w0 φ0 φ b cs T g ds E W
 o : ∀ x, o = some x → RsSt w0 φ0 φ x #[.string ⟨#[]⟩, .string ⟨#[]⟩] 32 W ∧ x ≠ b ∧ x ≠ g
section
variable {w0 W w' : World} {φ0 φ : Phi} {b g x : Nat} {cs ds : Array Value} {T E : TypeId} {o : Option Nat}
theorem RtS.callB (h : RtS w0 φ0 φ b cs T g ds E o W) (hb : Below W.heap.size W w') : RtS w0 φ0 φ b cs T g ds E o w' := ⟨h.f.callB hb, fun x hx => ⟨(h.o x hx).1.callB hb, (h.o x hx).2⟩⟩
theorem RtS.al (h : Hid (RtS w0 φ0 φ b cs T g ds E none W)) : Hid (RtS w0 φ0 φ b cs T g ds E (some W.heap.size) (W.alloc (.cells #[.string ⟨#[]⟩, .string ⟨#[]⟩] 32))) := by
 refine Lib.hid ⟨h.out.f.callB ((Below.refl _ _).alloc (Nat.le_refl _) _), fun x hx => ?_⟩
 cases hx
 exact ⟨RsSt.start h.out.f.x.inv _ _, by have := h.out.f.x.k.lt; omega, by have := h.out.f.r.k.lt; omega⟩
theorem RtS.alD (h : Hid (RtS w0 φ0 φ b cs T g ds E none W)) : Hid (RtS w0 φ0 φ b cs T g ds E (some W.heap.size) (W.alloc (.cells #[.string ⟨#[]⟩, .string ⟨#[]⟩] 32)).drew) := Lib.hid ((RtS.al h).out.callB (bdrewN (Below.refl _ _) 1))
theorem RtS.facts (h : Hid (RtS w0 φ0 φ b cs T g ds E (some x) W)) : W.cell? ⟨x, 0, none⟩ = some (.string ⟨#[]⟩) ∧ W.cell? ⟨x, 1, none⟩ = some (.string ⟨#[]⟩) ∧ W.frozen? ⟨x, 0, none⟩ = false ∧ W.frozen? ⟨x, 1, none⟩ = false ∧ x ≠ b :=
 have k := (h.out.o x rfl).1.k
 ⟨k.cell 0, k.cell 1, k.frz 0, k.frz 1, (h.out.o x rfl).2.1⟩
/-- Both texts stand in the new cell. -/
theorem RtS.put {s t : ByteArray} (h : Hid (RtS w0 φ0 φ b cs T g ds E (some x) W)) : Hid (Fr2 w0 φ0 φ b cs T g ds E ((W.setCell ⟨x, 0, none⟩ (.string s)).setCell ⟨x, 1, none⟩ (.string t)) ∧ RsSt w0 φ0 φ x #[.string s, .string t] 32 ((W.setCell ⟨x, 0, none⟩ (.string s)).setCell ⟨x, 1, none⟩ (.string t)) ∧ x ≠ b ∧ x ≠ g) := by
 obtain ⟨k, n1, n2⟩ := h.out.o x rfl
 have k1 := k.set 0 (.string s)
 have k2 := k1.set 1 (.string t)
 exact Lib.hid ⟨⟨(h.out.f.x.oth k n1 0 _).oth k1 n1 1 _, (h.out.f.r.oth k n2 0 _).oth k1 n2 1 _⟩, k2, n1, n2⟩
/-- The same, where the cell is made last. -/
theorem RtS.putNew {s t : ByteArray} (h : Hid (RtS w0 φ0 φ b cs T g ds E none W)) : Hid (Fr2 w0 φ0 φ b cs T g ds E (W.alloc (.cells #[.string s, .string t] 32)) ∧ RsSt w0 φ0 φ W.heap.size #[.string s, .string t] 32 (W.alloc (.cells #[.string s, .string t] 32)) ∧ W.heap.size ≠ b ∧ W.heap.size ≠ g) :=
 Lib.hid ⟨h.out.f.callB ((Below.refl _ _).alloc (Nat.le_refl _) _), RsSt.start h.out.f.x.inv _ _, by have := h.out.f.x.k.lt; omega, by have := h.out.f.r.k.lt; omega⟩
theorem keepA {w : World} {a : Addr} {v : Value} {o : Obj} (h : w.cell? a = some v) : (w.alloc o).cell? a = some v := by
 rw [World.cell?_alloc_lt]
 ·exact h
 ·exact block_lt_of_cell h
theorem Rtext_S {m k : Nat} {a : Option Addr} {c : Nat} (hp : Hid (PowP φ)) (s : Hid (SlV φ a c (limbs m))) (hk : Hid ((limbs m).length = k)) (hk9 : k ≤ 1000000000) {t : ByteArray} (ht : Hid (decB m = t)) (h : Hid (RtS w0 φ0 φ b cs T g ds E o W)) :
  Calls Tryz.prog 52 #[.slice a k c] W (fun e w' => e = .returned (.string t) ∧ Hid (RtS w0 φ0 φ b cs T g ds E o w')) := by
 refine (Rtext_any h.out.f.x.inv.fz hp.out s.out hk hk9 ht).mono ?_
 rintro e w' ⟨rfl, hb⟩
 exact ⟨rfl, Lib.hid (h.out.callB hb)⟩
end
set_option maxRecDepth 100000 in
set_option maxHeartbeats 2000000 in
theorem RRatio_any {M : Nat} (hD : Hid (RdivOk M)) (hM : LenB M) {v : Value} {x : Rat} {N D : Nat} {w : World} {φ : Phi} (hφ : Fz φ w) (hp : PowP φ) (hv : FrX φ v x N D) (hN : N ≤ M) (hDM : D ≤ M) {S T : ByteArray} {F : Int} (hR : Hid (ratR x = (S, T, F))) :
  Calls Tryz.prog 75 #[v] w (fun e w' => e = .returned (.tuple #[.agg #[.string S, .string T], .int .i64 F]) ∧ Below w.heap.size w w') := by
 obtain ⟨neg, n, d, k1, k2, a1, c1, a2, c2, rfl, s1, s2, h1, h2, hd0, hnN, hdD, hx⟩ := hv.open
 have hn : n ≤ M := Nat.le_trans hnN hN
 have hd : d ≤ M := Nat.le_trans hdD hDM
 have hBX0 := (Inv.start hφ).alloc (.cells #[.bool neg, .slice a1 k1 c1, .slice a2 k2 c2] 36)
 have hRS0 := RsSt.start hBX0 #[.string ⟨#[]⟩, .string ⟨#[]⟩] 32
 rw [alloc_sz] at hRS0
 have HRS := Lib.hid hRS0
 clear hBX0 hRS0
 obtain ⟨g, hg⟩ : ∃ g, Nat.gcd n d = g := ⟨_, rfl⟩
 have hg0 : 0 < g := by rw [← hg]; exact gcd_dle hd0
 obtain ⟨q1, hq1⟩ : ∃ k, Hid ((limbs (n / g)).length = k) := ⟨_, Lib.hid rfl⟩
 obtain ⟨q2, hq2⟩ : ∃ k, Hid ((limbs (d / g)).length = k) := ⟨_, Lib.hid rfl⟩
 have hl1 : q1 ≤ 1000000000 := by rw [← hq1.out]; exact hM.len (Nat.le_trans (Nat.div_le_self n g) hn)
 have hl2 : q2 ≤ 1000000000 := by rw [← hq2.out]; exact hM.len (Nat.le_trans (Nat.div_le_self d g) hd)
 obtain ⟨ng, hng⟩ : ∃ b, Hid ((neg && decide (n / g ≠ 0)) = b) := ⟨_, Lib.hid rfl⟩
 obtain ⟨s, hs⟩ : ∃ s, Hid (decB (n / g) = s) := ⟨_, Lib.hid rfl⟩
 obtain ⟨t, ht⟩ : ∃ s, Hid (decB (d / g) = s) := ⟨_, Lib.hid rfl⟩
 have hRR : Hid (ratN ng s t = (S, T, F)) := Lib.hid (by
  have := hR.out
  rw [← hx, ratR_eq hd0, hg, hng.out, hs.out, ht.out] at this
  exact this)
 have hss : s.size ≤ 9000000001 := by rw [← hs.out]; have := decB_len hq1.out; omega
 have htt : t.size ≤ 9000000001 := by rw [← ht.out]; have := decB_len hq2.out; omega
 have hC := Lib.hid (fun W (hf : Fz φ W) => (Rlowest_any (neg := neg) hD hf s1 s2 h1 h2 hn hd hd0 hM))
 rw [hg, hng.out] at hC
 have HP := Lib.hid hp
 clear s1 s2 hφ hp hR hg hx
 go_enter Tryz.func75, Tryz.ntmps75
 go_wp2_with (go_at_call 116; refine (hC.out _ HRS.out.inv.fz).mono ?_; rintro e w1 ⟨a3, c3, a4, c4, φ1, rfl, hi1, hs3, hs4⟩; rw [hq1.out, hq2.out]; have R1 := Lib.hid (HRS.out.call hi1); have L1 := Lib.hid hi1.le; have SN := Lib.hid hs3; have SD := Lib.hid hs4; clear hi1 hs3 hs4)
 obtain ⟨bb, hbb⟩ : ∃ b, w.heap.size = b := ⟨_, rfl⟩
 obtain ⟨g4, hg4⟩ : ∃ b, w1.heap.size = b := ⟨_, rfl⟩
 have hF1 : Hid (RtS w φ φ1 g4 #[.bool ng, .slice a3 q1 c3, .slice a4 q2 c4] 36 (bb + 1) #[.string ⟨#[]⟩, .string ⟨#[]⟩] 32 none (w1.alloc (.cells #[.bool ng, .slice a3 q1 c3, .slice a4 q2 c4] 36))) := Lib.hid (by
  subst hbb hg4
  exact ⟨⟨RsSt.start R1.out.inv _ _, R1.out.callB ((Below.refl _ _).alloc (Nat.le_refl _) _)⟩, fun x hx => by cases hx⟩)
 have HBB := Lib.hid hbb
 rw [hbb, hg4]
 clear R1 hg4 hbb
 generalize w1.alloc (.cells #[.bool ng, .slice a3 q1 c3, .slice a4 q2 c4] 36) = wx at *
 have HP1 := Lib.hid (HP.out.mono L1.out)
 have hFd : Hid (RtS w φ φ1 g4 #[.bool ng, .slice a3 q1 c3, .slice a4 q2 c4] 36 (bb + 1) #[.string ⟨#[]⟩, .string ⟨#[]⟩] 32 none wx.drew) := Lib.hid (hF1.out.callB (bdrewN (Below.refl _ wx) 1))
 have y0 : wx.cell? ⟨g4, 0, none⟩ = some (.bool ng) := hF1.out.f.x.k.cell 0
 have y1 : wx.cell? ⟨g4, 1, none⟩ = some (.slice a3 q1 c3) := hF1.out.f.x.k.cell 1
 have y2 : wx.cell? ⟨g4, 2, none⟩ = some (.slice a4 q2 c4) := hF1.out.f.x.k.cell 2
 apply wp_region_cut1 (fr := fun x => { tmps := #[.agg #[.bool neg, .slice a1 k1 c1, .slice a2 k2 c2], .pointer (some ⟨bb, 0, none⟩), .pointer (some ⟨bb + 1, 0, none⟩), .int .i64 0, .pointer (some ⟨g4, 0, none⟩), .pointer (some ⟨x, 0, none⟩), .agg #[.bool neg, .slice a1 k1 c1, .slice a2 k2 c2], .agg #[.bool ng, .slice a3 q1 c3, .slice a4 q2 c4], .pointer (some ⟨g4, 1, none⟩), .slice a3 q1 c3, .string s, .pointer (some ⟨g4, 2, none⟩), .slice a4 q2 c4, .string t, .agg #[.string s, .string t], undef, undef, undef, undef, undef, undef, undef, undef, undef, undef, undef, undef, undef, undef, undef, undef, undef, undef], defers := [] })
  (S := fun x W => Hid (Fr2 w φ φ1 g4 #[.bool ng, .slice a3 q1 c3, .slice a4 q2 c4] 36 (bb + 1) #[.string ⟨#[]⟩, .string ⟨#[]⟩] 32 W ∧ RsSt w φ φ1 x #[.string s, .string t] 32 W ∧ x ≠ g4 ∧ x ≠ bb + 1))
 case h1 =>
  go_region_held3 (fun w' => w'.cell? ⟨g4, 1, none⟩ = some (.slice a3 q1 c3) ∧ w'.cell? ⟨g4, 2, none⟩ = some (.slice a4 q2 c4)) (first | exact ⟨y1, y2⟩ | exact ⟨by assumption, by assumption⟩ | exact ⟨keepA (by assumption), keepA (by assumption)⟩ | exact ⟨keep2 (by assumption) (by assumption), keep2 (by assumption) (by assumption)⟩) (first
   | ((with_reducible refine (Rtext_S HP1 SN hq1 hl1 hs (by first | assumption | exact RtS.al (by assumption) | exact RtS.alD hF1)).mono ?_); rintro e w' ⟨rfl, hX⟩; have z1 : w'.cell? ⟨g4, 1, none⟩ = some (.slice a3 q1 c3) := hX.out.f.x.k.cell 1; have z2 : w'.cell? ⟨g4, 2, none⟩ = some (.slice a4 q2 c4) := hX.out.f.x.k.cell 2; (try obtain ⟨v0, v1, v2, v3, v4⟩ := RtS.facts hX))
   | ((with_reducible refine (Rtext_S HP1 SD hq2 hl2 ht (by first | assumption | exact RtS.al (by assumption) | exact RtS.alD hF1)).mono ?_); rintro e w' ⟨rfl, hX⟩; have z1 : w'.cell? ⟨g4, 1, none⟩ = some (.slice a3 q1 c3) := hX.out.f.x.k.cell 1; have z2 : w'.cell? ⟨g4, 2, none⟩ = some (.slice a4 q2 c4) := hX.out.f.x.k.cell 2; (try obtain ⟨v0, v1, v2, v3, v4⟩ := RtS.facts hX)))
  all_goals first
   | exact onlyN_mk ⟨_, rfl, RtS.put (by assumption)⟩
   | exact onlyN_mk ⟨_, rfl, RtS.putNew (by assumption)⟩
 case h2 =>
  intro x W9 hF9
  obtain ⟨hFF, hXX, ne1, ne2⟩ := hF9.out
  have HFF := Lib.hid hFF
  have HXX := Lib.hid hXX
  have p0 : W9.cell? ⟨g4, 0, none⟩ = some (.bool ng) := hFF.x.k.cell 0
  have p1 : W9.cell? ⟨x, 0, none⟩ = some (.string s) := hXX.k.cell 0
  have p2 : W9.cell? ⟨x, 1, none⟩ = some (.string t) := hXX.k.cell 1
  have p3 := hXX.k.frz 0
  have r0 : W9.cell? ⟨bb + 1, 0, none⟩ = some (.string ⟨#[]⟩) := hFF.r.k.cell 0
  have r1 : W9.cell? ⟨bb + 1, 1, none⟩ = some (.string ⟨#[]⟩) := hFF.r.k.cell 1
  have r2 := hFF.r.k.frz 0
  have r3 := hFF.r.k.frz 1
  have hZ0 := Lib.hid (fun (u v : Value) => ((hFF.r.set 0 u).set 1 v))
  have hZ1 := Lib.hid (fun (z u v : Value) => (((hFF.r.oth hXX ne2 0 z).set 0 u).set 1 v))
  clear hF9 hFF hXX y0 y1 y2 hFd hF1
  by_cases g1 : 2000 < s.size
  ·have g1i : (2000 : Int) < (s.size : Int) := by omega
   have hq : Hid (S = ⟨#[]⟩ ∧ T = ⟨#[]⟩ ∧ F = 2) := Lib.hid (by
    have := hRR.out; rw [ratN, if_pos (.inl g1)] at this
    cases this; exact ⟨rfl, rfl, rfl⟩)
   clear g1
   go_wp2
   have hZ := Lib.hid (hZ0.out (.string ⟨#[]⟩) (.string ⟨#[]⟩))
   have e0 : _ = some (Value.string ⟨#[]⟩) := hZ.out.k.cell 0
   have e1 : _ = some (Value.string ⟨#[]⟩) := hZ.out.k.cell 1
   (try simp only [Exit.inBlock, Exit.then])
   refine bodyPost_ret (v := .tuple #[.agg #[.string ⟨#[]⟩, .string ⟨#[]⟩], .int .i64 2]) (by simp [results, Tryz.results75, go_sem, e0, e1]) rfl ?_
   exact ⟨by rw [hq.out.1, hq.out.2.1, hq.out.2.2], hZ.out.inv.bel⟩
  ·have g1i : ¬ (2000 : Int) < (s.size : Int) := by omega
   by_cases g2 : 2000 < t.size
   ·have g2i : (2000 : Int) < (t.size : Int) := by omega
    have hq : Hid (S = ⟨#[]⟩ ∧ T = ⟨#[]⟩ ∧ F = 2) := Lib.hid (by
     have := hRR.out; rw [ratN, if_pos (.inr g2)] at this
     cases this; exact ⟨rfl, rfl, rfl⟩)
    clear g1 g2
    go_wp2
    have hZ := Lib.hid (hZ0.out (.string ⟨#[]⟩) (.string ⟨#[]⟩))
    have e0 : _ = some (Value.string ⟨#[]⟩) := hZ.out.k.cell 0
    have e1 : _ = some (Value.string ⟨#[]⟩) := hZ.out.k.cell 1
    (try simp only [Exit.inBlock, Exit.then])
    refine bodyPost_ret (v := .tuple #[.agg #[.string ⟨#[]⟩, .string ⟨#[]⟩], .int .i64 2]) (by simp [results, Tryz.results75, go_sem, e0, e1]) rfl ?_
    exact ⟨by rw [hq.out.1, hq.out.2.1, hq.out.2.2], hZ.out.inv.bel⟩
   ·have g2i : ¬ (2000 : Int) < (t.size : Int) := by omega
    have g3 : ¬ 9223372036854775807 < 1 + s.size := by omega
    have hq0 := hRR.out
    rw [ratN, if_neg (by omega)] at hq0
    clear g1 g2
    cases ng
    ·have hq : Hid (S = s ∧ T = t ∧ F = 0) := Lib.hid (by
      rw [if_neg (by simp)] at hq0; cases hq0; exact ⟨rfl, rfl, rfl⟩)
     clear hq0
     go_wp2
     have hZ := Lib.hid (hZ0.out (.string s) (.string t))
     have e0 : _ = some (Value.string s) := hZ.out.k.cell 0
     have e1 : _ = some (Value.string t) := hZ.out.k.cell 1
     (try simp only [Exit.inBlock, Exit.then])
     refine bodyPost_ret (v := .tuple #[.agg #[.string s, .string t], .int .i64 0]) (by simp [results, Tryz.results75, go_sem, e0, e1]) rfl ?_
     exact ⟨by rw [hq.out.1, hq.out.2.1, hq.out.2.2], hZ.out.inv.bel⟩
    ·have hq : Hid (S = (⟨#[45]⟩ ++ s) ∧ T = t ∧ F = 0) := Lib.hid (by
      rw [if_pos rfl] at hq0; cases hq0; exact ⟨rfl, rfl, rfl⟩)
     clear hq0
     go_wp2
     have hZ := Lib.hid (hZ1.out (.string (⟨#[45]⟩ ++ s)) (.string (⟨#[45]⟩ ++ s)) (.string t))
     have e0 : _ = some (Value.string (⟨#[45]⟩ ++ s)) := hZ.out.k.cell 0
     have e1 : _ = some (Value.string t) := hZ.out.k.cell 1
     (try simp only [Exit.inBlock, Exit.then])
     refine bodyPost_ret (v := .tuple #[.agg #[.string (⟨#[45]⟩ ++ s), .string t], .int .i64 0]) (by simp [results, Tryz.results75, go_sem, e0, e1]) rfl ?_
     exact ⟨by rw [hq.out.1, hq.out.2.1, hq.out.2.2], hZ.out.inv.bel⟩
end Go.Proofs.YtmlpjffnmkndoaaGreatDoor
