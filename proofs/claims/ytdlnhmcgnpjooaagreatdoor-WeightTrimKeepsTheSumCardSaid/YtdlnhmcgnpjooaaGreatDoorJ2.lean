/- The walk of the program's Bases. Conditions: the library's table of powers of ten reads as it was laid. -/
import Derived.Test.YtdlnhmcgnpjooaaGreatDoorJ1
import Derived.Test.YtdlnhmcgnpjooaaGreatDoorP17
namespace Go.Proofs.YtdlnhmcgnpjooaaGreatDoor
open Go.RowKit
set_option linter.unusedVariables false
set_option linter.unusedSimpArgs false
theorem basesR_err {l : List Pck} {k n : Nat} (hn : l.length = n) (h : n ≤ 3000) (hk : k < n) (h0 : ∀ i, i < k → basF (l.getD i pck0) = 0) {g : Int} (hg : basF (l.getD k pck0) = g) (hne : g ≠ 0) : basesR l = ([], g) := by
  subst hn
  have e := scan_stop (f := fun i => basF (l.getD i pck0)) h0 hk (by show basF (l.getD k pck0) ≠ 0; rw [hg]; exact hne)
  unfold basesR
  rw [if_neg (by omega), e, if_pos (by show basF (l.getD k pck0) ≠ 0; rw [hg]; exact hne)]
  show ([], basF (l.getD k pck0)) = _
  rw [hg]
theorem basesR_ok {l : List Pck} {n : Nat} (hn : l.length = n) (h : n ≤ 3000) (h0 : ∀ i, i < n → basF (l.getD i pck0) = 0) : basesR l = (l.map basT, 0) := by
  subst hn
  unfold basesR
  rw [if_neg (by omega), scan_zero _ _ h0, if_neg (by simp)]
theorem basF_sho {s t : ByteArray} {id g : Int} (h : shoF s t = g) (hg : g ≠ 0) : basF (id, s, t) = g := by
  unfold basF
  show (if shoF s t ≠ 0 then shoF s t else qF (ratX s t)) = g
  rw [h, if_pos hg]
theorem basF_q {s t : ByteArray} {id : Int} (h : shoF s t = 0) : basF (id, s, t) = qF (ratX s t) := by
  unfold basF
  show (if shoF s t ≠ 0 then shoF s t else qF (ratX s t)) = _
  rw [h, if_neg (by simp)]
theorem sgI_le {x : Rat} : sgI x ≤ 0 ↔ x ≤ 0 := by
  unfold sgI
  by_cases h0 : x = 0
  · rw [if_pos h0]; simp [h0]
  · rw [if_neg h0]
    by_cases h1 : x < 0
    · rw [if_pos h1]; exact ⟨fun _ => by grind, fun _ => by decide⟩
    · rw [if_neg h1]; exact ⟨fun h => absurd h (by decide), fun h => absurd h (by grind)⟩
theorem cmpQ_gt {x y : Rat} : 0 < cmpQ x y ↔ y < x := by
  unfold cmpQ
  by_cases h0 : x < y
  · rw [if_pos h0]; exact ⟨fun h => absurd h (by decide), fun h => absurd h (by grind)⟩
  · rw [if_neg h0]
    by_cases h1 : x = y
    · rw [if_pos h1]; exact ⟨fun h => absurd h (by decide), fun h => absurd h (by grind)⟩
    · rw [if_neg h1]; exact ⟨fun _ => by grind, fun _ => by decide⟩
set_option maxRecDepth 100000 in
set_option maxHeartbeats 4000000 in
theorem Bases_any {M : Nat} (hD : Hid (DivOk M)) (hM : LenB M) (hM2 : p10 2000 ≤ M) {n : Nat} {a : Option Addr} {cap : Nat} {l : List Pck} {w : World} {φ : Phi} (hφ : Fz φ w) (hp : PowP φ) (sl : SlV φ a cap l) (hn : Hid (l.length = n)) (hsz : Hid (∀ p ∈ l, p.2.1.size ≤ 9223372036854775807 ∧ p.2.2.size ≤ 9223372036854775807)) {L : List Rti} {F : Int} (hR : Hid (basesR l = (L, F))) :
    Calls Tryz.prog 9 #[.slice a n cap] w (SlPost (L, F) φ w) := by
  have HM2 := Lib.hid hM2
  have h13 : 10000000000000 ≤ M := Nat.le_trans p10_13 hM2
  have HP := Lib.hid hp
  have hnl : n ≤ 9223372036854775807 := by have := sl.capn; have := sl.capm; rw [hn.out] at *; unfold maxLen at *; omega
  have hS0 : Hid (OwSt w φ 29 none 0 ([] : List Rti) w) := Lib.hid ⟨Inv.start hφ, Own.nil _ _ _ _⟩
  clear hM2 hp
  by_cases h3 : 3000 < n
  · have h3i : (3000 : Int) < (n : Int) := by omega
    have hq : Hid (([], 2) = (L, F)) := Lib.hid (by rw [← hR.out]; unfold basesR; rw [if_pos (by rw [hn.out]; exact h3)])
    have HI := Lib.hid (Inv.start hφ)
    clear h3 hR
    go_enter Tryz.func9, Tryz.ntmps9
    go_wp2
    go_ret2
    have := hq.out
    injection this with e1 e2
    subst e1 e2
    exact ⟨none, 0, φ, rfl, HI.out, SlV.empty φ⟩
  have h3i : ¬ (3000 : Int) < (n : Int) := by omega
  have h3n : n ≤ 3000 := by omega
  clear h3 hφ
  go_enter Tryz.func9, Tryz.ntmps9
  go_wp2
  go_loopw [4, 16] (fun ov iv wr => ∃ (k : Nat) (ao : Option Addr) (co : Nat) (os : List Rti), k ≤ n ∧ iv = .int .i64 (k : Int) ∧ ov = .slice ao os.length co ∧ Hid (os = (l.take k).map basT) ∧ Hid (∀ i, i < k → basF (l.getD i pck0) = 0) ∧ Hid (OwSt w φ 29 ao co os wr)) (fun _ iv _ => n - (intOf iv).toNat)
  case atStart => exact ⟨0, none, 0, [], Nat.zero_le _, rfl, rfl, Lib.hid rfl, none_yet _, hS0⟩
  case round =>
    clear hS0
    obtain ⟨k, ao, co, os, hk, rfl, rfl, hos, hok, hS⟩ := hrel
    have hol : os.length ≤ 3000 := by rw [hos.out, List.length_map, List.length_take]; omega
    by_cases hlt : k < n
    · have hlti : (k : Int) < (n : Int) := by omega
      obtain ⟨b, off, rfl, f⟩ := sl.pcksD hn hlt
      obtain ⟨d0, d1, d2⟩ := f k hlt wr hS.out.inv.fz
      obtain ⟨p, hp⟩ : ∃ p, Hid (l.getD k pck0 = p) := ⟨_, Lib.hid rfl⟩
      have hpm := hsz.out p (by rw [← hp.out, getD_elem0 _ _ _ (by rw [hn.out]; exact hlt)]; exact List.getElem_mem _)
      rw [hp.out] at d0 d1 d2
      obtain ⟨id, s, t⟩ := p
      obtain ⟨hs, ht⟩ := hpm
      have hs : s.size ≤ 9223372036854775807 := hs
      have ht : t.size ≤ 9223372036854775807 := ht
      have d0 : wr.cell? ⟨b, off + k * 3, none⟩ = some (.int .i64 id) := d0
      have d1 : wr.cell? ⟨b, off + k * 3 + 1, none⟩ = some (.string s) := d1
      have d2 : wr.cell? ⟨b, off + k * 3 + 2, none⟩ = some (.string t) := d2
      obtain ⟨g, hg⟩ : ∃ g, Hid (shoF s t = g) := ⟨_, Lib.hid rfl⟩
      have hS1 := Lib.hid (hS.out.alloc (.cells #[.int .i64 id, .string s, .string t] 56))
      have hK1 := Lib.hid (Blk.new wr #[.int .i64 id, .string s, .string t] 56)
      clear f hS
      go_upto_region 7 with fail
      generalize wr.alloc (.cells #[.int .i64 id, .string s, .string t] 56) = wa at *
      generalize wr.heap.size = g6 at *
      have x1 : wa.cell? ⟨g6, 1, none⟩ = some (.string s) := hK1.out.cell 1
      have x2 : wa.cell? ⟨g6, 2, none⟩ = some (.string t) := hK1.out.cell 2
      clear d0 d1 d2
      by_cases hg0 : g = 0
      · subst hg0
        have hrf := Lib.hid (shoF_ok hg.out).1
        obtain ⟨hN, hDn⟩ := sho_lt hg.out
        obtain ⟨x, hx⟩ : ∃ x, Hid (ratX s t = x) := ⟨_, Lib.hid rfl⟩
        obtain ⟨N, hNe⟩ : ∃ N, dV (bodyB s).data.toList = N := ⟨_, rfl⟩
        obtain ⟨Dn, hDe⟩ : ∃ N, dV t.data.toList = N := ⟨_, rfl⟩
        rw [hNe] at hN
        rw [hDe] at hDn
        have hC := Lib.hid (fun W (hf : Fz φ W) => FracOf_any hD HM2.out hs ht hrf hf)
        rw [hx.out, hNe, hDe] at hC
        have hbF : Hid (basF (l.getD k pck0) = qF x) := Lib.hid (by rw [hp.out, basF_q hg.out, hx.out])
        clear hNe hDe
        go_upto_region 11 with (first
          | (go_at_call 26; (with_reducible refine (Short_any hD HM2.out hs ht hg hS1.out.inv.fz).mono ?_); rintro e w2 ⟨rfl, hb2⟩; have hS2 := Lib.hid (hS1.out.callB hb2); have K2 := Lib.hid (hK1.out.callB hb2); have y1 : w2.cell? ⟨g6, 1, none⟩ = some (.string s) := K2.out.cell 1; have y2 : w2.cell? ⟨g6, 2, none⟩ = some (.string t) := K2.out.cell 2; clear hb2)
          | (go_at_call 27; (with_reducible refine (hC.out _ hS2.out.inv.fz).mono ?_); rintro e w4 ⟨v4, φ4, rfl, hi4, hv4⟩; obtain ⟨g4, n4, m4, k4, k5, a4, c4, a5, c5, rfl, _⟩ := hv4.open; have hS4 := Lib.hid ((hS2.out.callB hi4.bel).alloc (.cells #[.bool g4, .slice a4 k4 c4, .slice a5 k5 c5] 63)); have K4 := Lib.hid ((K2.out.callB hi4.bel).alloc (.cells #[.bool g4, .slice a4 k4 c4, .slice a5 k5 c5] 63)); have HF4 := Lib.hid (hi4.fz.alloc (.cells #[.bool g4, .slice a4 k4 c4, .slice a5 k5 c5] 63)); have HV4 := Lib.hid hv4; have KF := Lib.hid (Blk.new w4 #[.bool g4, .slice a4 k4 c4, .slice a5 k5 c5] 63); clear hi4 hv4))
        clear x1 x2 hS1 hK1 hC y1 y2 hS2 K2
        generalize w4.alloc (.cells #[.bool g4, .slice a4 k4 c4, .slice a5 k5 c5] 63) = wb at *
        generalize w4.heap.size = g8 at *
        obtain ⟨q1, hq1⟩ : ∃ q, Hid (sgI x = q) := ⟨_, Lib.hid rfl⟩
        have e1 := Lib.hid (sgI_le (x := x))
        rw [hq1.out] at e1
        have hW0 : Hid (Inv wb.heap.size wb φ4 φ4 wb.drew) := Lib.hid (Inv.start HF4.out).drew
        have x0 : wb.drew.cell? ⟨g8, 0, none⟩ = some (.bool g4) := KF.out.cell 0
        have x1 : wb.drew.cell? ⟨g8, 1, none⟩ = some (.slice a4 k4 c4) := KF.out.cell 1
        have x2 : wb.drew.cell? ⟨g8, 2, none⟩ = some (.slice a5 k5 c5) := KF.out.cell 2
        have h3c : q1 = -1 ∨ q1 = 0 ∨ q1 = 1 := by
          rw [← hq1.out]; unfold sgI
          split
          · exact .inr (.inl rfl)
          · split
            · exact .inl rfl
            · exact .inr (.inr rfl)
        rcases h3c with rfl | rfl | rfl
        · have hE : Hid (([], 1) = (L, F)) := Lib.hid (by
            rw [← hR.out]
            exact (basesR_err hn.out h3n hlt hok.out (by rw [hbF.out]; unfold qF; rw [if_pos (.inl (e1.out.1 (by decide)))]) (by decide)).symm)
          clear e1
          go_region_with (((with_reducible refine (Sign_any hW0.out.fz HV4.out hq1).mono ?_); rintro e w5 ⟨rfl, hb5⟩; have hW5 := Lib.hid (hW0.out.callB hb5); have K5 := KF.out.below hW5.out.bel KF.out.lt; have z0 : w5.cell? ⟨g8, 0, none⟩ = some (.bool g4) := K5.cell 0; have z1 : w5.cell? ⟨g8, 1, none⟩ = some (.slice a4 k4 c4) := K5.cell 1; have z2 : w5.cell? ⟨g8, 2, none⟩ = some (.slice a5 k5 c5) := K5.cell 2; clear K5 hb5))
          all_goals
            go_wp2
            go_ret2
            have := hE.out
            injection this with e1 e2
            subst e1 e2
            exact ⟨none, 0, φ, rfl, (hS4.out.callB hW5.out.bel).inv, SlV.empty φ⟩
        · have hE : Hid (([], 1) = (L, F)) := Lib.hid (by
            rw [← hR.out]
            exact (basesR_err hn.out h3n hlt hok.out (by rw [hbF.out]; unfold qF; rw [if_pos (.inl (e1.out.1 (by decide)))]) (by decide)).symm)
          clear e1
          go_region_with (((with_reducible refine (Sign_any hW0.out.fz HV4.out hq1).mono ?_); rintro e w5 ⟨rfl, hb5⟩; have hW5 := Lib.hid (hW0.out.callB hb5); have K5 := KF.out.below hW5.out.bel KF.out.lt; have z0 : w5.cell? ⟨g8, 0, none⟩ = some (.bool g4) := K5.cell 0; have z1 : w5.cell? ⟨g8, 1, none⟩ = some (.slice a4 k4 c4) := K5.cell 1; have z2 : w5.cell? ⟨g8, 2, none⟩ = some (.slice a5 k5 c5) := K5.cell 2; clear K5 hb5))
          all_goals
            go_wp2
            go_ret2
            have := hE.out
            injection this with e1 e2
            subst e1 e2
            exact ⟨none, 0, φ, rfl, (hS4.out.callB hW5.out.bel).inv, SlV.empty φ⟩
        · have HX0 : Hid (¬ x ≤ 0) := Lib.hid (fun h => absurd (e1.out.2 h) (by decide))
          obtain ⟨q2, hq2⟩ : ∃ q, Hid (cmpQ x 1 = q) := ⟨_, Lib.hid rfl⟩
          have e2 := Lib.hid (cmpQ_gt (x := x) (y := 1))
          rw [hq2.out] at e2
          have one : Hid (((1 : Int) : Rat) = 1) := Lib.hid rfl
          have hC1 := Lib.hid (fun (ψ : Phi) W (hf : Fz ψ W) => FracInt_any (n := 1) (by decide) (by decide) hf)
          rw [one.out, show (1 : Int).natAbs = 1 from rfl] at hC1
          have m1 : N * 1 + 1 * Dn ≤ M := by omega
          have m2 : Dn * 1 ≤ M := by omega
          have M12 := Lib.hid (And.intro m1 m2)
          clear m1 m2
          go_region_held3 (fun w' => w'.cell? ⟨g8, 0, none⟩ = some (.bool g4) ∧ w'.cell? ⟨g8, 1, none⟩ = some (.slice a4 k4 c4) ∧ w'.cell? ⟨g8, 2, none⟩ = some (.slice a5 k5 c5)) (first | with_reducible exact ⟨x0, x1, x2⟩ | with_reducible exact ⟨by assumption, by assumption, by assumption⟩) (first
            | ((with_reducible refine (Compare_any hM hW6.out.fz (HV4.out.mono hW6.out.le) HV6.out M12.out.1 M12.out.2 hq2).mono ?_); rintro e w7 ⟨rfl, hb7⟩; have hW7 := Lib.hid (hW6.out.callB hb7); have K7 := KF.out.below hW7.out.bel KF.out.lt; have u0 : w7.cell? ⟨g8, 0, none⟩ = some (.bool g4) := K7.cell 0; have u1 : w7.cell? ⟨g8, 1, none⟩ = some (.slice a4 k4 c4) := K7.cell 1; have u2 : w7.cell? ⟨g8, 2, none⟩ = some (.slice a5 k5 c5) := K7.cell 2; clear K7 hb7)
            | ((with_reducible refine (hC1.out φ4 _ hW5.out.fz).mono ?_); rintro e w6 ⟨v6, φ6, rfl, hi6, hv6⟩; obtain ⟨g7, n7, d7, p7, p8, a7, c7, a8, c8, rfl, _⟩ := hv6.open; have hW6 := Lib.hid (hW5.out.call hi6); have HV6 := Lib.hid hv6; have K6 := KF.out.below hW6.out.bel KF.out.lt; have v0 : w6.cell? ⟨g8, 0, none⟩ = some (.bool g4) := K6.cell 0; have v1 : w6.cell? ⟨g8, 1, none⟩ = some (.slice a4 k4 c4) := K6.cell 1; have v2 : w6.cell? ⟨g8, 2, none⟩ = some (.slice a5 k5 c5) := K6.cell 2; clear K6 hi6 hv6)
            | ((with_reducible refine (Sign_any hW0.out.fz HV4.out hq1).mono ?_); rintro e w5 ⟨rfl, hb5⟩; have hW5 := Lib.hid (hW0.out.callB hb5); have K5 := KF.out.below hW5.out.bel KF.out.lt; have z0 : w5.cell? ⟨g8, 0, none⟩ = some (.bool g4) := K5.cell 0; have z1 : w5.cell? ⟨g8, 1, none⟩ = some (.slice a4 k4 c4) := K5.cell 1; have z2 : w5.cell? ⟨g8, 2, none⟩ = some (.slice a5 k5 c5) := K5.cell 2; clear K5 hb5))
          by_cases hq3 : 0 < q2
          · have hE : Hid (([], 1) = (L, F)) := Lib.hid (by
              rw [← hR.out]
              exact (basesR_err hn.out h3n hlt hok.out (by rw [hbF.out]; unfold qF; rw [if_pos (.inr (e2.out.1 hq3))]) (by decide)).symm)
            clear e1 e2
            go_wp2
            go_ret2
            have := hE.out
            injection this with e1 e2
            subst e1 e2
            exact ⟨none, 0, φ, rfl, (hS4.out.callB hW7.out.bel).inv, SlV.empty φ⟩
          · have hbk : Hid (basF (l.getD k pck0) = 0) := Lib.hid (by
              rw [hbF.out]; unfold qF
              rw [if_neg]
              rintro (h | h)
              · exact HX0.out h
              · exact hq3 (e2.out.2 h))
            have hq3i : ¬ (0 : Int) < q2 := hq3
            have hx0 : Hid (ratX s t ≠ 0) := Lib.hid (by
              rw [hx.out]
              intro h
              exact HX0.out (by rw [h]; exact Rat.le_refl))
            obtain ⟨S, hS'⟩ : ∃ S, (ratR (1 / ratX s t)).1 = S := ⟨_, rfl⟩
            obtain ⟨T, hT'⟩ : ∃ S, (ratR (1 / ratX s t)).2.1 = S := ⟨_, rfl⟩
            obtain ⟨G, hG'⟩ : ∃ S, (ratR (1 / ratX s t)).2.2 = S := ⟨_, rfl⟩
            have hRR : Hid (ratR (1 / ratX s t) = (S, T, G)) := Lib.hid (by rw [← hS', ← hT', ← hG'])
            have hnx : Hid (os ++ [(S, T)] = (l.take (k + 1)).map basT) := Lib.hid (by
              rw [take_snocD pck0 l k n hn.out hlt, List.map_append, ← hos.out, hp.out, List.map_singleton]
              show _ = os ++ [((ratR (1 / ratX s t)).1, (ratR (1 / ratX s t)).2.1)]
              rw [hS', hT'])
            have hok2 := next_ok hok hbk.out
            have hS7 := Lib.hid (hS4.out.callB hW7.out.bel)
            have K7 := K4.out.below hW7.out.bel K4.out.lt
            have r1 : w7.cell? ⟨g6, 1, none⟩ = some (.string s) := K7.cell 1
            have r2 : w7.cell? ⟨g6, 2, none⟩ = some (.string t) := K7.cell 2
            clear e1 e2 hS' hT' hG' K7 x0 x1 x2 hW0 hS4 hos hok
            go_wp2_with (first
              | (go_at_call 31; (with_reducible refine (Inverse_any hD hM HM2.out hs ht hrf hx0.out hS7.out.inv.fz HP.out hRR).mono ?_); rintro e w8 ⟨rfl, hb8⟩; have hS8 := Lib.hid ((hS7.out.callB hb8).alloc (.cells #[.string S, .string T] 29)); have hin := Lib.hid hS8.out.inv; have hon := Lib.hid hS8.out.own; clear hb8)
              | (at_builtin; (refine wpList_app1F (α := Rti) rfl _ _ 23 rfl slRti hin.out ao co _ hon.out #[.string S, .string T] 29 (S, T) ⟨[.string S], [.string T], rfl, rfl, rfl⟩ rfl 1 (by exact congrArg (fun z => Value.slice (some ⟨z, 0, none⟩) 1 1) (alloc_sz _ _).symm) (by omega) ?_; intro a9 c9 w9 hi9 ho9 hg9 hf9)))
            go_roundw
            case rel => exact ⟨k + 1, a9, c9, os ++ [(S, T)], by omega, by go_num, by simp, hnx, hok2, Lib.hid ⟨hi9, ho9⟩⟩
            case measure => (simp [intOf] <;> omega)
      · have hE : Hid (([], g) = (L, F)) := Lib.hid (by
          rw [← hR.out]
          exact (basesR_err hn.out h3n hlt hok.out (by rw [hp.out]; exact basF_sho hg.out hg0) hg0).symm)
        have h0i : (g == 0) = false := by simp [hg0]
        have h0j : (g != 0) = true := by simp [hg0]
        clear hg0
        go_wp2_with (go_at_call 26; (with_reducible refine (Short_any hD HM2.out hs ht hg hS1.out.inv.fz).mono ?_); rintro e w2 ⟨rfl, hb2⟩; have hS2 := Lib.hid (hS1.out.callB hb2); have K2 := Lib.hid (hK1.out.callB hb2); have y1 : w2.cell? ⟨g6, 1, none⟩ = some (.string s) := K2.out.cell 1; have y2 : w2.cell? ⟨g6, 2, none⟩ = some (.string t) := K2.out.cell 2; clear hb2)
        go_ret2
        have := hE.out
        injection this with e1 e2
        subst e1 e2
        exact ⟨none, 0, φ, rfl, hS2.out.inv, SlV.empty φ⟩
    · obtain rfl : k = n := by omega
      have hE : Hid ((os, 0) = (L, F)) := Lib.hid (by
        rw [← hR.out, basesR_ok hn.out h3n hok.out, hos.out, List.take_of_length_le (by rw [hn.out]; exact Nat.le_refl _)])
      obtain ⟨φ', _, hi', hs', _⟩ := hS.out.own.release hS.out.inv
      have HS' := Lib.hid hs'
      have HI' := Lib.hid hi'
      clear hi' hs' hS hos hok
      go_wp2
      go_ret2
      have := hE.out
      injection this with e1 e2
      subst e1 e2
      exact ⟨ao, co, φ', rfl, HI'.out, HS'.out⟩
end Go.Proofs.YtdlnhmcgnpjooaaGreatDoor
