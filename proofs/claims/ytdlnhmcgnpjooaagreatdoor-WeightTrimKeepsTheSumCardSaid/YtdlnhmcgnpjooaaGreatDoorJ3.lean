/- The walk of the reference's Bases. Conditions: the library's table of powers of ten reads as it was laid. -/
import Derived.Test.YtdlnhmcgnpjooaaGreatDoorJ2
import Derived.Test.YtdlnhmcgnpjooaaGreatDoorB22
import Derived.Test.YtdlnhmcgnpjooaaGreatDoorB23
import Derived.Test.YtdlnhmcgnpjooaaGreatDoorBB
namespace Go.Proofs.YtdlnhmcgnpjooaaGreatDoor
open Go.RowKit
set_option linter.unusedVariables false
set_option linter.unusedSimpArgs false
theorem cmpQ_le {x y : Rat} : cmpQ x y ≤ 0 ↔ x ≤ y := by
  unfold cmpQ
  by_cases h0 : x < y
  · rw [if_pos h0]; exact ⟨fun _ => by grind, fun _ => by decide⟩
  · rw [if_neg h0]
    by_cases h1 : x = y
    · rw [if_pos h1]; exact ⟨fun _ => by grind, fun _ => by decide⟩
    · rw [if_neg h1]; exact ⟨fun h => absurd h (by decide), fun h => absurd h (by grind)⟩
/-- A call, and perhaps a new cell for a ratio. -/
structure RcS (w0 : World) (φ0 φ : Phi) (o : Option Nat) (W : World) : Prop where
  inv : Inv w0.heap.size w0 φ0 φ W
  o : ∀ x, o = some x → RsSt w0 φ0 φ x #[.string ⟨#[]⟩, .string ⟨#[]⟩] 29 W
section
variable {w0 W w' : World} {φ0 φ φ' : Phi} {x : Nat} {o : Option Nat}
theorem RcS.callB (h : RcS w0 φ0 φ o W) (hb : Below W.heap.size W w') : RcS w0 φ0 φ o w' := ⟨h.inv.callB hb, fun x hx => (h.o x hx).callB hb⟩
theorem RcS.call (h : RcS w0 φ0 φ o W) (hi : Inv W.heap.size W φ φ' w') : RcS w0 φ0 φ' o w' := ⟨h.inv.call hi, fun x hx => (h.o x hx).call hi⟩
theorem RcS.al (h : Hid (RcS w0 φ0 φ none W)) : Hid (RcS w0 φ0 φ (some W.heap.size) (W.alloc (.cells #[.string ⟨#[]⟩, .string ⟨#[]⟩] 29))) := by
  refine Lib.hid ⟨h.out.inv.alloc _, fun x hx => ?_⟩
  cases hx
  exact RsSt.start h.out.inv _ _
theorem RcS.alD (h : Hid (RcS w0 φ0 φ none W)) : Hid (RcS w0 φ0 φ (some W.heap.size) (W.alloc (.cells #[.string ⟨#[]⟩, .string ⟨#[]⟩] 29)).drew) := Lib.hid ((RcS.al h).out.callB (bdrewN (Below.refl _ _) 1))
theorem RcS.facts (h : Hid (RcS w0 φ0 φ (some x) W)) : W.cell? ⟨x, 0, none⟩ = some (.string ⟨#[]⟩) ∧ W.cell? ⟨x, 1, none⟩ = some (.string ⟨#[]⟩) ∧ W.frozen? ⟨x, 0, none⟩ = false ∧ W.frozen? ⟨x, 1, none⟩ = false ∧ w0.heap.size ≤ x :=
  have k := (h.out.o x rfl)
  ⟨k.k.cell 0, k.k.cell 1, k.k.frz 0, k.k.frz 1, k.l⟩
theorem RcS.facts2 {g : Nat} (hg : Hid (g < w0.heap.size)) (h : Hid (RcS w0 φ0 φ (some x) W)) : W.cell? ⟨x, 0, none⟩ = some (.string ⟨#[]⟩) ∧ W.cell? ⟨x, 1, none⟩ = some (.string ⟨#[]⟩) ∧ W.frozen? ⟨x, 0, none⟩ = false ∧ W.frozen? ⟨x, 1, none⟩ = false ∧ x ≠ g := by
  obtain ⟨h0, h1, h2, h3, h4⟩ := RcS.facts h
  exact ⟨h0, h1, h2, h3, by have := hg.out; omega⟩
theorem RcS.put {s t : ByteArray} (h : Hid (RcS w0 φ0 φ (some x) W)) : Below w0.heap.size w0 ((W.setCell ⟨x, 0, none⟩ (.string s)).setCell ⟨x, 1, none⟩ (.string t)) ∧ Blk ((W.setCell ⟨x, 0, none⟩ (.string s)).setCell ⟨x, 1, none⟩ (.string t)) x #[.string s, .string t] 29 :=
  have k := ((h.out.o x rfl).set 0 (.string s)).set 1 (.string t)
  ⟨k.inv.bel, k.k⟩
theorem RcS.putNew {s t : ByteArray} (h : Hid (RcS w0 φ0 φ none W)) : Below w0.heap.size w0 (W.alloc (.cells #[.string s, .string t] 29)) ∧ Blk (W.alloc (.cells #[.string s, .string t] 29)) W.heap.size #[.string s, .string t] 29 :=
  ⟨(h.out.inv.alloc _).bel, Blk.new _ _ _⟩
end
theorem ROver_S {M : Nat} (hD : Hid (RdivOk M)) (hM : LenB M) {w0 W : World} {φ0 φ : Phi} {o : Option Nat} {v1 v2 : Value} {x y z : Rat} {N1 D1 N2 D2 NB DB : Nat} (h : Hid (RcS w0 φ0 φ o W)) (hv1 : FrX φ v1 x N1 D1) (hv2 : FrX φ v2 y N2 D2) (hy : y ≠ 0) (hz : x / y = z) (hN : N1 * D2 = NB) (hDB : D1 * N2 = DB) (hM1 : NB ≤ M) (hM2 : DB ≤ M) (hM3 : D2 ≤ M) :
    Calls Tryz.prog 33 #[v1, v2] W (fun e w' => ∃ v φ', e = .returned v ∧ Hid (RcS w0 φ0 φ' o w') ∧ Hid (FrX φ' v z NB DB)) := by
  subst hz hN hDB
  refine (ROver_any hD hM h.out.inv.fz hv1 hv2 hy hM1 hM2 hM3).mono ?_
  rintro e w' ⟨v, φ', rfl, hi, hv⟩
  exact ⟨v, φ', rfl, Lib.hid (h.out.call hi), Lib.hid hv⟩
theorem RWhole_S {w0 W : World} {φ0 φ : Phi} {o : Option Nat} {n : Int} (h0 : -9223372036854775808 < n) (h1 : n < 9223372036854775808) {x : Rat} {N : Nat} (hx : (n : Rat) = x) (hN : n.natAbs = N) (h : Hid (RcS w0 φ0 φ o W)) :
    Calls Tryz.prog 17 #[.int .i64 n] W (fun e w' => ∃ v φ', e = .returned v ∧ Hid (RcS w0 φ0 φ' o w') ∧ Hid (FrX φ' v x N 1) ∧ Hid (φ.le φ')) := by
  subst hx hN
  refine (RWhole_any h0 h1 h.out.inv.fz).mono ?_
  rintro e w' ⟨v, φ', rfl, hi, hv⟩
  exact ⟨v, φ', rfl, Lib.hid (h.out.call hi), Lib.hid hv, Lib.hid hi.le⟩
theorem RRatio_S {M : Nat} (hD : Hid (RdivOk M)) (hM : LenB M) {w0 W : World} {φ0 φ : Phi} {o : Option Nat} {v : Value} {x : Rat} {N D : Nat} (h : Hid (RcS w0 φ0 φ o W)) (hp : PowP φ) (hv : FrX φ v x N D) (hN : N ≤ M) (hDM : D ≤ M) {S T : ByteArray} {F : Int} (hR : Hid (ratR x = (S, T, F))) :
    Calls Tryz.prog 34 #[v] W (fun e w' => e = .returned (.tuple #[.agg #[.string S, .string T], .int .i64 F]) ∧ Hid (RcS w0 φ0 φ o w')) := by
  refine (RRatio_any hD hM h.out.inv.fz hp hv hN hDM hR).mono ?_
  rintro e w' ⟨rfl, hb⟩
  exact ⟨rfl, Lib.hid (h.out.callB hb)⟩
set_option maxRecDepth 100000 in
set_option maxHeartbeats 4000000 in
theorem RBases_any {M : Nat} (hD : Hid (RdivOk M)) (hM : LenB M) (hM2 : p10 2000 ≤ M) {n : Nat} {a : Option Addr} {cap : Nat} {l : List Pck} {w : World} {φ : Phi} (hφ : Fz φ w) (hp : PowP φ) (sl : SlV φ a cap l) (hn : Hid (l.length = n)) (hsz : Hid (∀ p ∈ l, p.2.1.size ≤ 9223372036854775807 ∧ p.2.2.size ≤ 9223372036854775807)) {L : List Rti} {F : Int} (hR : Hid (basesR l = (L, F))) :
    Calls Tryz.prog 10 #[.slice a n cap] w (SlPost (L, F) φ w) := by
  have HM2 := Lib.hid hM2
  have h13 : 10000000000000 ≤ M := Nat.le_trans p10_13 hM2
  have HP := Lib.hid hp
  have hnl : n ≤ 9223372036854775807 := by have := sl.capn; have := sl.capm; rw [hn.out] at *; unfold maxLen at *; omega
  have hS0 : Hid (OwSt w φ 29 none 0 ([] : List Rti) w) := Lib.hid ⟨Inv.start hφ, Own.nil _ _ _ _⟩
  clear hM2 hp
  by_cases h3 : 3000 < n
  · have h3i : (3000 : Int) < (n : Int) := by omega
    have hq : Hid (([], 2) = (L, F)) := Lib.hid (by rw [← hR.out]; unfold basesR; rw [if_pos (by rw [hn.out]; exact h3)])
    have HI := Lib.hid (Inv.start hφ)
    clear h3 hR
    go_enter Tryz.func10, Tryz.ntmps10
    go_wp2
    go_ret2
    have := hq.out
    injection this with e1 e2
    subst e1 e2
    exact ⟨none, 0, φ, rfl, HI.out, SlV.empty φ⟩
  have h3i : ¬ (3000 : Int) < (n : Int) := by omega
  have h3n : n ≤ 3000 := by omega
  clear h3 hφ
  go_enter Tryz.func10, Tryz.ntmps10
  go_wp2
  go_loopw [4, 16] (fun ov iv wr => ∃ (k : Nat) (ao : Option Addr) (co : Nat) (os : List Rti), k ≤ n ∧ iv = .int .i64 (k : Int) ∧ ov = .slice ao os.length co ∧ Hid (os = (l.take k).map basT) ∧ Hid (∀ i, i < k → basF (l.getD i pck0) = 0) ∧ Hid (OwSt w φ 29 ao co os wr)) (fun _ iv _ => n - (intOf iv).toNat)
  case atStart => exact ⟨0, none, 0, [], Nat.zero_le _, rfl, rfl, Lib.hid rfl, none_yet _, hS0⟩
  case round =>
    clear hS0
    obtain ⟨k, ao, co, os, hk, rfl, rfl, hos, hok, hS⟩ := hrel
    have hol : os.length ≤ 3000 := by rw [hos.out, List.length_map, List.length_take]; omega
    by_cases hlt : k < n
    · have hlti : (k : Int) < (n : Int) := by omega
      obtain ⟨b, off, rfl, f⟩ := sl.pcksD hn hlt
      obtain ⟨d0, d1, d2⟩ := f k hlt wr hS.out.inv.fz
      obtain ⟨p, hp⟩ : ∃ p, Hid (l.getD k pck0 = p) := ⟨_, Lib.hid rfl⟩
      have hpm := hsz.out p (by rw [← hp.out, getD_elem0 _ _ _ (by rw [hn.out]; exact hlt)]; exact List.getElem_mem _)
      rw [hp.out] at d0 d1 d2
      obtain ⟨id, s, t⟩ := p
      obtain ⟨hs, ht⟩ := hpm
      have hs : s.size ≤ 9223372036854775807 := hs
      have ht : t.size ≤ 9223372036854775807 := ht
      have d0 : wr.cell? ⟨b, off + k * 3, none⟩ = some (.int .i64 id) := d0
      have d1 : wr.cell? ⟨b, off + k * 3 + 1, none⟩ = some (.string s) := d1
      have d2 : wr.cell? ⟨b, off + k * 3 + 2, none⟩ = some (.string t) := d2
      obtain ⟨g, hg⟩ : ∃ g, Hid (shoF s t = g) := ⟨_, Lib.hid rfl⟩
      have hS1 := Lib.hid (hS.out.alloc (.cells #[.int .i64 id, .string s, .string t] 56))
      have hK1 := Lib.hid (Blk.new wr #[.int .i64 id, .string s, .string t] 56)
      clear f hS
      go_upto_region 7 with fail
      generalize wr.alloc (.cells #[.int .i64 id, .string s, .string t] 56) = wa at *
      generalize wr.heap.size = g6 at *
      have x1 : wa.cell? ⟨g6, 1, none⟩ = some (.string s) := hK1.out.cell 1
      have x2 : wa.cell? ⟨g6, 2, none⟩ = some (.string t) := hK1.out.cell 2
      clear d0 d1 d2
      by_cases hg0 : g = 0
      · subst hg0
        have hrf := Lib.hid (shoF_ok hg.out).1
        obtain ⟨hN, hDn⟩ := sho_lt hg.out
        obtain ⟨x, hx⟩ : ∃ x, Hid (ratX s t = x) := ⟨_, Lib.hid rfl⟩
        obtain ⟨N, hNe⟩ : ∃ N, dV (bodyB s).data.toList = N := ⟨_, rfl⟩
        obtain ⟨Dn, hDe⟩ : ∃ N, dV t.data.toList = N := ⟨_, rfl⟩
        rw [hNe] at hN
        rw [hDe] at hDn
        have hC := Lib.hid (fun W (hf : Fz φ W) => RFracOf_any (ratF_ok hrf.out) hf)
        rw [hx.out, hNe, hDe] at hC
        have hbF : Hid (basF (l.getD k pck0) = qF x) := Lib.hid (by rw [hp.out, basF_q hg.out, hx.out])
        clear hNe hDe
        go_upto_region 11 with (first
          | (go_at_call 32; (with_reducible refine (ShortRatio_any hM HM2.out hs ht hg hS1.out.inv.fz HP.out).mono ?_); rintro e w2 ⟨rfl, hb2⟩; have hS2 := Lib.hid (hS1.out.callB hb2); have K2 := Lib.hid (hK1.out.callB hb2); have y1 : w2.cell? ⟨g6, 1, none⟩ = some (.string s) := K2.out.cell 1; have y2 : w2.cell? ⟨g6, 2, none⟩ = some (.string t) := K2.out.cell 2; clear hb2)
          | (go_at_call 19; (with_reducible refine (hC.out _ hS2.out.inv.fz).mono ?_); rintro e w4 ⟨v4, φ4, rfl, hi4, hv4⟩; obtain ⟨g4, n4, m4, k4, k5, a4, c4, a5, c5, rfl, _⟩ := hv4.open; have hS4 := Lib.hid ((hS2.out.callB hi4.bel).alloc (.cells #[.bool g4, .slice a4 k4 c4, .slice a5 k5 c5] 46)); have K4 := Lib.hid ((K2.out.callB hi4.bel).alloc (.cells #[.bool g4, .slice a4 k4 c4, .slice a5 k5 c5] 46)); have HF4 := Lib.hid (hi4.fz.alloc (.cells #[.bool g4, .slice a4 k4 c4, .slice a5 k5 c5] 46)); have HV4 := Lib.hid hv4; have L4 := Lib.hid hi4.le; have KF := Lib.hid (Blk.new w4 #[.bool g4, .slice a4 k4 c4, .slice a5 k5 c5] 46); clear hi4 hv4))
        clear x1 x2 hS1 hK1 hC y1 y2 hS2 K2
        generalize w4.alloc (.cells #[.bool g4, .slice a4 k4 c4, .slice a5 k5 c5] 46) = wb at *
        generalize w4.heap.size = g8 at *
        obtain ⟨q1, hq1⟩ : ∃ q, Hid (cmpQ x 0 = q) := ⟨_, Lib.hid rfl⟩
        have e1 := Lib.hid (cmpQ_le (x := x) (y := 0))
        rw [hq1.out] at e1
        have hW0 : Hid (Inv wb.heap.size wb φ4 φ4 wb.drew) := Lib.hid (Inv.start HF4.out).drew
        have x0 : wb.drew.cell? ⟨g8, 0, none⟩ = some (.bool g4) := KF.out.cell 0
        have x1 : wb.drew.cell? ⟨g8, 1, none⟩ = some (.slice a4 k4 c4) := KF.out.cell 1
        have x2 : wb.drew.cell? ⟨g8, 2, none⟩ = some (.slice a5 k5 c5) := KF.out.cell 2
        have h3c : q1 = -1 ∨ q1 = 0 ∨ q1 = 1 := by
          rw [← hq1.out]; unfold cmpQ
          split
          · exact .inl rfl
          · split
            · exact .inr (.inl rfl)
            · exact .inr (.inr rfl)
        have hC0 := Lib.hid (fun (ψ : Phi) W (hf : Fz ψ W) => RWhole_any (n := 0) (by decide) (by decide) hf)
        rw [show ((0 : Int) : Rat) = 0 from rfl, show (0 : Int).natAbs = 0 from rfl] at hC0
        have m1 : N * 1 + 0 * Dn ≤ M := by omega
        have m2 : Dn * 1 ≤ M := by omega
        have M12 := Lib.hid (And.intro m1 m2)
        clear m1 m2
        rcases h3c with rfl | rfl | rfl
        · have hE : Hid (([], 1) = (L, F)) := Lib.hid (by
            rw [← hR.out]
            exact (basesR_err hn.out h3n hlt hok.out (by rw [hbF.out]; unfold qF; rw [if_pos (.inl (e1.out.1 (by decide)))]) (by decide)).symm)
          clear e1
          go_region_with (first
            | ((with_reducible refine (ROrder_any hD hM hW5.out.fz (HV4.out.mono hW5.out.le) HV5.out M12.out.1 M12.out.2 hq1).mono ?_); rintro e w6 ⟨rfl, hb6⟩; have hW6 := Lib.hid (hW5.out.callB hb6); have K6 := KF.out.below hW6.out.bel KF.out.lt; have u0 : w6.cell? ⟨g8, 0, none⟩ = some (.bool g4) := K6.cell 0; have u1 : w6.cell? ⟨g8, 1, none⟩ = some (.slice a4 k4 c4) := K6.cell 1; have u2 : w6.cell? ⟨g8, 2, none⟩ = some (.slice a5 k5 c5) := K6.cell 2; clear K6 hb6)
            | ((with_reducible refine (hC0.out φ4 _ hW0.out.fz).mono ?_); rintro e w5 ⟨v5, φ5, rfl, hi5, hv5⟩; obtain ⟨g7, n7, d7, p7, p8, a7, c7, a8, c8, rfl, _⟩ := hv5.open; have hW5 := Lib.hid (hW0.out.call hi5); have HV5 := Lib.hid hv5; have K5 := KF.out.below hW5.out.bel KF.out.lt; have z0 : w5.cell? ⟨g8, 0, none⟩ = some (.bool g4) := K5.cell 0; have z1 : w5.cell? ⟨g8, 1, none⟩ = some (.slice a4 k4 c4) := K5.cell 1; have z2 : w5.cell? ⟨g8, 2, none⟩ = some (.slice a5 k5 c5) := K5.cell 2; clear K5 hi5 hv5))
          all_goals
            go_wp2
            go_ret2
            have := hE.out
            injection this with e1 e2
            subst e1 e2
            exact ⟨none, 0, φ, rfl, (hS4.out.callB hW6.out.bel).inv, SlV.empty φ⟩
        · have hE : Hid (([], 1) = (L, F)) := Lib.hid (by
            rw [← hR.out]
            exact (basesR_err hn.out h3n hlt hok.out (by rw [hbF.out]; unfold qF; rw [if_pos (.inl (e1.out.1 (by decide)))]) (by decide)).symm)
          clear e1
          go_region_with (first
            | ((with_reducible refine (ROrder_any hD hM hW5.out.fz (HV4.out.mono hW5.out.le) HV5.out M12.out.1 M12.out.2 hq1).mono ?_); rintro e w6 ⟨rfl, hb6⟩; have hW6 := Lib.hid (hW5.out.callB hb6); have K6 := KF.out.below hW6.out.bel KF.out.lt; have u0 : w6.cell? ⟨g8, 0, none⟩ = some (.bool g4) := K6.cell 0; have u1 : w6.cell? ⟨g8, 1, none⟩ = some (.slice a4 k4 c4) := K6.cell 1; have u2 : w6.cell? ⟨g8, 2, none⟩ = some (.slice a5 k5 c5) := K6.cell 2; clear K6 hb6)
            | ((with_reducible refine (hC0.out φ4 _ hW0.out.fz).mono ?_); rintro e w5 ⟨v5, φ5, rfl, hi5, hv5⟩; obtain ⟨g7, n7, d7, p7, p8, a7, c7, a8, c8, rfl, _⟩ := hv5.open; have hW5 := Lib.hid (hW0.out.call hi5); have HV5 := Lib.hid hv5; have K5 := KF.out.below hW5.out.bel KF.out.lt; have z0 : w5.cell? ⟨g8, 0, none⟩ = some (.bool g4) := K5.cell 0; have z1 : w5.cell? ⟨g8, 1, none⟩ = some (.slice a4 k4 c4) := K5.cell 1; have z2 : w5.cell? ⟨g8, 2, none⟩ = some (.slice a5 k5 c5) := K5.cell 2; clear K5 hi5 hv5))
          all_goals
            go_wp2
            go_ret2
            have := hE.out
            injection this with e1 e2
            subst e1 e2
            exact ⟨none, 0, φ, rfl, (hS4.out.callB hW6.out.bel).inv, SlV.empty φ⟩
        · have HX0 : Hid (¬ x ≤ 0) := Lib.hid (fun h => absurd (e1.out.2 h) (by decide))
          obtain ⟨q2, hq2⟩ : ∃ q, Hid (cmpQ x 1 = q) := ⟨_, Lib.hid rfl⟩
          have e2 := Lib.hid (cmpQ_gt (x := x) (y := 1))
          rw [hq2.out] at e2
          have hC1 := Lib.hid (fun (ψ : Phi) W (hf : Fz ψ W) => RWhole_any (n := 1) (by decide) (by decide) hf)
          rw [show ((1 : Int) : Rat) = 1 from rfl, show (1 : Int).natAbs = 1 from rfl] at hC1
          have m1 : N * 1 + 1 * Dn ≤ M := by omega
          have m2 : Dn * 1 ≤ M := by omega
          have M34 := Lib.hid (And.intro m1 m2)
          clear m1 m2
          go_region_held3 (fun w' => w'.cell? ⟨g8, 0, none⟩ = some (.bool g4) ∧ w'.cell? ⟨g8, 1, none⟩ = some (.slice a4 k4 c4) ∧ w'.cell? ⟨g8, 2, none⟩ = some (.slice a5 k5 c5)) (first | with_reducible exact ⟨x0, x1, x2⟩ | with_reducible exact ⟨by assumption, by assumption, by assumption⟩) (first
            | ((with_reducible refine (ROrder_any hD hM hW6.out.fz (HV4.out.mono hW6.out.le) HV6.out M34.out.1 M34.out.2 hq2).mono ?_); rintro e w7 ⟨rfl, hb7⟩; have hW7 := Lib.hid (hW6.out.callB hb7); have K7 := KF.out.below hW7.out.bel KF.out.lt; have w7c0 : w7.cell? ⟨g8, 0, none⟩ = some (.bool g4) := K7.cell 0; have w7c1 : w7.cell? ⟨g8, 1, none⟩ = some (.slice a4 k4 c4) := K7.cell 1; have w7c2 : w7.cell? ⟨g8, 2, none⟩ = some (.slice a5 k5 c5) := K7.cell 2; clear K7 hb7)
            | ((with_reducible refine (hC1.out _ _ hW5.out.fz).mono ?_); rintro e w6 ⟨v6, φ6, rfl, hi6, hv6⟩; obtain ⟨g7, n7, d7, p7, p8, a7, c7, a8, c8, rfl, _⟩ := hv6.open; have hW6 := Lib.hid (hW5.out.call hi6); have HV6 := Lib.hid hv6; have K6 := KF.out.below hW6.out.bel KF.out.lt; have w6c0 : w6.cell? ⟨g8, 0, none⟩ = some (.bool g4) := K6.cell 0; have w6c1 : w6.cell? ⟨g8, 1, none⟩ = some (.slice a4 k4 c4) := K6.cell 1; have w6c2 : w6.cell? ⟨g8, 2, none⟩ = some (.slice a5 k5 c5) := K6.cell 2; clear K6 hi6 hv6)
            | ((with_reducible refine (ROrder_any hD hM hW3.out.fz (HV4.out.mono hW3.out.le) HV3.out M12.out.1 M12.out.2 hq1).mono ?_); rintro e w5 ⟨rfl, hb5⟩; have hW5 := Lib.hid (hW3.out.callB hb5); have K5 := KF.out.below hW5.out.bel KF.out.lt; have w5c0 : w5.cell? ⟨g8, 0, none⟩ = some (.bool g4) := K5.cell 0; have w5c1 : w5.cell? ⟨g8, 1, none⟩ = some (.slice a4 k4 c4) := K5.cell 1; have w5c2 : w5.cell? ⟨g8, 2, none⟩ = some (.slice a5 k5 c5) := K5.cell 2; clear K5 hb5)
            | ((with_reducible refine (hC0.out φ4 _ hW0.out.fz).mono ?_); rintro e w3 ⟨v3, φ3, rfl, hi3, hv3⟩; obtain ⟨g9, n9, d9, p9, p10, a9, c9, a10, c10, rfl, _⟩ := hv3.open; have hW3 := Lib.hid (hW0.out.call hi3); have HV3 := Lib.hid hv3; have K3 := KF.out.below hW3.out.bel KF.out.lt; have w3c0 : w3.cell? ⟨g8, 0, none⟩ = some (.bool g4) := K3.cell 0; have w3c1 : w3.cell? ⟨g8, 1, none⟩ = some (.slice a4 k4 c4) := K3.cell 1; have w3c2 : w3.cell? ⟨g8, 2, none⟩ = some (.slice a5 k5 c5) := K3.cell 2; clear K3 hi3 hv3))
          by_cases hq3 : 0 < q2
          · have hE : Hid (([], 1) = (L, F)) := Lib.hid (by
              rw [← hR.out]
              exact (basesR_err hn.out h3n hlt hok.out (by rw [hbF.out]; unfold qF; rw [if_pos (.inr (e2.out.1 hq3))]) (by decide)).symm)
            clear e1 e2
            go_wp2
            go_ret2
            have := hE.out
            injection this with e1 e2
            subst e1 e2
            exact ⟨none, 0, φ, rfl, (hS4.out.callB hW7.out.bel).inv, SlV.empty φ⟩
          · have hbk : Hid (basF (l.getD k pck0) = 0) := Lib.hid (by
              rw [hbF.out]; unfold qF
              rw [if_neg]
              rintro (h | h)
              · exact HX0.out h
              · exact hq3 (e2.out.2 h))
            have hq3i : ¬ (0 : Int) < q2 := hq3
            have hx0 : Hid (ratX s t ≠ 0) := Lib.hid (by
              rw [hx.out]
              intro h
              exact HX0.out (by rw [h]; exact Rat.le_refl))
            obtain ⟨S, hS'⟩ : ∃ S, (ratR (1 / ratX s t)).1 = S := ⟨_, rfl⟩
            obtain ⟨T, hT'⟩ : ∃ S, (ratR (1 / ratX s t)).2.1 = S := ⟨_, rfl⟩
            obtain ⟨G, hG'⟩ : ∃ S, (ratR (1 / ratX s t)).2.2 = S := ⟨_, rfl⟩
            have hRR : Hid (ratR (1 / ratX s t) = (S, T, G)) := Lib.hid (by rw [← hS', ← hT', ← hG'])
            have hnx : Hid (os ++ [(S, T)] = (l.take (k + 1)).map basT) := Lib.hid (by
              rw [take_snocD pck0 l k n hn.out hlt, List.map_append, ← hos.out, hp.out, List.map_singleton]
              show _ = os ++ [((ratR (1 / ratX s t)).1, (ratR (1 / ratX s t)).2.1)]
              rw [hS', hT'])
            have hok2 := next_ok hok hbk.out
            have hS7 := Lib.hid (hS4.out.callB hW7.out.bel)
            have K7 := K4.out.below hW7.out.bel K4.out.lt
            have r1 : w7.cell? ⟨g6, 1, none⟩ = some (.string s) := K7.cell 1
            have r2 : w7.cell? ⟨g6, 2, none⟩ = some (.string t) := K7.cell 2
            clear e1 e2 hS' hT' hG' K7 x0 x1 x2 hW0 hS4 hos hok
            have hcW := Lib.hid ((HF4.out.below hW7.out.bel))
            have hc0 : Hid (RcS w7 φ4 φ4 none w7) := Lib.hid ⟨Inv.start hcW.out, fun x hx => by cases hx⟩
            have hcd : Hid (RcS w7 φ4 φ4 none w7.drew) := Lib.hid (hc0.out.callB (bdrewN (Below.refl _ w7) 1))
            have HP4 := Lib.hid (HP.out.mono L4.out)
            have hRz : Hid (ratR (1 / x) = (S, T, G)) := Lib.hid (by rw [← hx.out, hRR.out])
            have hxx : Hid (x ≠ 0) := Lib.hid (by rw [← hx.out]; exact hx0.out)
            have hgl : Hid (g8 < w7.heap.size) := Lib.hid (by have := KF.out.lt; have := hW7.out.bel.size; omega)
            have H1Q : Hid (((1 : Int) : Rat) = 1) := Lib.hid rfl
            have H1N : Hid ((1 : Int).natAbs = 1) := Lib.hid rfl
            have b1 : Dn ≤ M := by omega
            have b2 : N ≤ M := by omega
            have ex1 : 1 * Dn = Dn := Nat.one_mul _
            have ex2 : 1 * N = N := Nat.one_mul _
            have HEX := Lib.hid (And.intro ex1 ex2)
            clear ex1 ex2 w5c0 w5c1 w5c2 w3c0 w3c1 w3c2 w6c0 w6c1 w6c2
            have hdq := Lib.hid (decide_eq_false hq3)
            go_upto_region 13 with fail
            rw [hdq.out]
            have y0 : w7.drew.cell? ⟨g8, 0, none⟩ = some (.bool g4) := w7c0
            have y1 : w7.drew.cell? ⟨g8, 1, none⟩ = some (.slice a4 k4 c4) := w7c1
            have y2 : w7.drew.cell? ⟨g8, 2, none⟩ = some (.slice a5 k5 c5) := w7c2
            apply wp_region_cutV (fun (i : Nat × Value × Value) => [(40, i.2.1), (41, .agg #[.bool g4, .slice a4 k4 c4, .slice a5 k5 c5]), (42, i.2.2), (43, .tuple #[.agg #[.string S, .string T], .int .i64 G]), (39, .tuple #[.agg #[.string S, .string T], .int .i64 G]), (44, .agg #[.string S, .string T]), (45, .int .i64 G), (9, .pointer (some ⟨i.1, 0, none⟩)), (10, .int .i64 G)]) (fun i W => Hid (Below w7.heap.size w7 W ∧ Blk W i.1 #[.string S, .string T] 29))
            case h1 =>
              intro KK hKK
              go_region_held3 (fun w' => w'.cell? ⟨g8, 0, none⟩ = some (.bool g4) ∧ w'.cell? ⟨g8, 1, none⟩ = some (.slice a4 k4 c4) ∧ w'.cell? ⟨g8, 2, none⟩ = some (.slice a5 k5 c5)) (first | with_reducible exact ⟨y0, y1, y2⟩ | with_reducible exact ⟨by assumption, by assumption, by assumption⟩ | exact ⟨keepAP (by with_reducible assumption), keepAP (by with_reducible assumption), keepAP (by with_reducible assumption)⟩ | exact ⟨keep2 (by with_reducible assumption) (show _ ≠ g8 by with_reducible assumption), keep2 (by with_reducible assumption) (show _ ≠ g8 by with_reducible assumption), keep2 (by with_reducible assumption) (show _ ≠ g8 by with_reducible assumption)⟩) (first
                | ((with_reducible refine (RRatio_S hD hM (by first | with_reducible assumption | with_reducible exact RcS.al (by with_reducible assumption)) (HP4.out.mono hX2.out.inv.le) V2.out b1 b2 hRz).mono ?_); rintro e w' ⟨rfl, hX3⟩; have K3 := KF.out.below (hW7.out.bel.trans (hX3.out.inv.bel.mono hW7.out.bel.size)) KF.out.lt; have q0 : w'.cell? ⟨g8, 0, none⟩ = some (.bool g4) := K3.cell 0; have q1' : w'.cell? ⟨g8, 1, none⟩ = some (.slice a4 k4 c4) := K3.cell 1; have q2' : w'.cell? ⟨g8, 2, none⟩ = some (.slice a5 k5 c5) := K3.cell 2; clear K3; (try (with_reducible have vv := RcS.facts2 hgl hX3); obtain ⟨v0, v1, v2, v3, v4⟩ := vv))
                | ((with_reducible refine (ROver_S (z := 1 / x) (NB := Dn) (DB := N) hD hM (by first | with_reducible assumption | with_reducible exact RcS.al (by with_reducible assumption)) V1.out (HV4.out.mono hX1.out.inv.le) hxx.out rfl HEX.out.1 HEX.out.2 b1 b2 b1).mono ?_); rintro e w' ⟨v42, φb, rfl, hX2, V2⟩; have K3 := KF.out.below (hW7.out.bel.trans (hX2.out.inv.bel.mono hW7.out.bel.size)) KF.out.lt; have q0 : w'.cell? ⟨g8, 0, none⟩ = some (.bool g4) := K3.cell 0; have q1' : w'.cell? ⟨g8, 1, none⟩ = some (.slice a4 k4 c4) := K3.cell 1; have q2' : w'.cell? ⟨g8, 2, none⟩ = some (.slice a5 k5 c5) := K3.cell 2; clear K3; (try (with_reducible have vv := RcS.facts2 hgl hX2); obtain ⟨v0, v1, v2, v3, v4⟩ := vv))
                | ((with_reducible refine (RWhole_S (n := 1) (x := 1) (N := 1) (by decide) (by decide) H1Q.out H1N.out (by first | with_reducible exact hcd | with_reducible assumption | with_reducible exact RcS.al (by with_reducible assumption) | exact RcS.alD hc0)).mono ?_); rintro e w' ⟨v40, φa, rfl, hX1, V1, _⟩; have K3 := KF.out.below (hW7.out.bel.trans (hX1.out.inv.bel.mono hW7.out.bel.size)) KF.out.lt; have q0 : w'.cell? ⟨g8, 0, none⟩ = some (.bool g4) := K3.cell 0; have q1' : w'.cell? ⟨g8, 1, none⟩ = some (.slice a4 k4 c4) := K3.cell 1; have q2' : w'.cell? ⟨g8, 2, none⟩ = some (.slice a5 k5 c5) := K3.cell 2; clear K3; (try (with_reducible have vv := RcS.facts2 hgl hX1); obtain ⟨v0, v1, v2, v3, v4⟩ := vv)))
              all_goals
                refine onlyN_mk ?_
                have hk := fun x W s => hKK.out (x, v40, v42) W (Lib.hid s)
                simp only [updA, List.foldl_cons, List.foldl_nil, List.setIfInBounds_toArray, List.set_cons_succ, List.set_cons_zero] at hk
                first
                  | exact hk _ _ (RcS.put (by with_reducible assumption))
                  | exact hk _ _ (RcS.putNew (by with_reducible assumption))
            case h2 =>
            rintro ⟨x9, v40, v42⟩ W9 hF9
            simp only [updA, List.foldl_cons, List.foldl_nil, List.setIfInBounds_toArray, List.set_cons_succ, List.set_cons_zero]
            have hb9 := hF9.out.1
            have k9 := hF9.out.2
            have r0 : W9.cell? ⟨x9, 0, none⟩ = some (.string S) := k9.cell 0
            have r1 : W9.cell? ⟨x9, 1, none⟩ = some (.string T) := k9.cell 1
            have hS9 := hS7.out.callB hb9
            have hin := Lib.hid hS9.inv
            have hon := Lib.hid hS9.own
            clear hb9 k9 hF9 hS9 y0 y1 y2 w7c0 w7c1 w7c2
            go_wp2_with (at_builtin; (refine wpList_app1F (α := Rti) rfl _ _ 23 rfl slRti hin.out ao co _ hon.out #[.string S, .string T] 29 (S, T) ⟨[.string S], [.string T], rfl, rfl, rfl⟩ rfl 1 rfl (by omega) ?_; intro a9 c9 w9 hi9 ho9 hg9 hf9))
            go_roundw
            case rel => exact ⟨k + 1, a9, c9, os ++ [(S, T)], by omega, by go_num, by simp, hnx, hok2, Lib.hid ⟨hi9, ho9⟩⟩
            case measure => (simp [intOf] <;> omega)
      · have hE : Hid (([], g) = (L, F)) := Lib.hid (by
          rw [← hR.out]
          exact (basesR_err hn.out h3n hlt hok.out (by rw [hp.out]; exact basF_sho hg.out hg0) hg0).symm)
        have h0i : (g == 0) = false := by simp [hg0]
        have h0j : (g != 0) = true := by simp [hg0]
        clear hg0
        go_wp2_with (go_at_call 32; (with_reducible refine (ShortRatio_any hM HM2.out hs ht hg hS1.out.inv.fz HP.out).mono ?_); rintro e w2 ⟨rfl, hb2⟩; have hS2 := Lib.hid (hS1.out.callB hb2); have K2 := Lib.hid (hK1.out.callB hb2); have y1 : w2.cell? ⟨g6, 1, none⟩ = some (.string s) := K2.out.cell 1; have y2 : w2.cell? ⟨g6, 2, none⟩ = some (.string t) := K2.out.cell 2; clear hb2)
        go_ret2
        have := hE.out
        injection this with e1 e2
        subst e1 e2
        exact ⟨none, 0, φ, rfl, hS2.out.inv, SlV.empty φ⟩
    · obtain rfl : k = n := by omega
      have hE : Hid ((os, 0) = (L, F)) := Lib.hid (by
        rw [← hR.out, basesR_ok hn.out h3n hok.out, hos.out, List.take_of_length_le (by rw [hn.out]; exact Nat.le_refl _)])
      obtain ⟨φ', _, hi', hs', _⟩ := hS.out.own.release hS.out.inv
      have HS' := Lib.hid hs'
      have HI' := Lib.hid hi'
      clear hi' hs' hS hos hok
      go_wp2
      go_ret2
      have := hE.out
      injection this with e1 e2
      subst e1 e2
      exact ⟨ao, co, φ', rfl, HI'.out, HS'.out⟩
end Go.Proofs.YtdlnhmcgnpjooaaGreatDoor
