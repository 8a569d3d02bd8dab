/- The walk of the reference's Due, and of SampleCallsMatchSpec. Conditions: none beyond what the claim form gives. -/
import Derived.Test.YtmgdeenjdoennaaC8
namespace Go.Proofs.Ytmgdeenjdoennaa
open Go.RowKit
set_option linter.unusedVariables false
theorem nextTo_101 (l wins : List (Int × Int)) (n n2 : Nat) (hn : n ≤ 100) (h2 : 0 < n2) : nextTo 101 l wins n n2 = nextTo ((n : Int) + 1) l wins n n2 := by
  obtain ⟨k, rfl⟩ : ∃ k, n2 = k + 1 := ⟨n2 - 1, by omega⟩
  exact nextTo_eq _ _ l wins n (by omega) (by omega) k

set_option maxRecDepth 100000 in
set_option maxHeartbeats 1600000 in
theorem rdue_any (most gap minute : Int) (n1 n2 n : Nat) (a1 a2 a : Option Addr) (c1 c2 c : Nat) (days : List Int) (wins l : List (Int × Int)) (w : World) (φ : Phi) (hφ : Fz φ w) (s1 : SlV φ a1 c1 days) (s2 : SlV φ a2 c2 wins) (s : SlV φ a c l) (l1 : Hid (days.length = n1)) (l2 : Hid (wins.length = n2)) (ln : Hid (l.length = n)) (hm : n1 ≤ 9223372036854775807) :
    Calls Try.prog 18 #[.agg #[.int .i64 most, .int .i64 gap, .slice a1 n1 c1, .slice a2 n2 c2], .slice a n c, .int .i64 minute] w (DueB (DueF most gap days wins l minute) w) := by
  have hi0 : Hid (Below w.heap.size w (w.alloc (.cells #[.int .i64 most, .int .i64 gap, .slice a1 n1 c1, .slice a2 n2 c2] 33))) := Lib.hid ((Below.refl _ _).alloc (Nat.le_refl _) _)
  have k0 := Lib.hid (Blk.new w #[.int .i64 most, .int .i64 gap, .slice a1 n1 c1, .slice a2 n2 c2] 33)
  go_enter Try.func18, Try.ntmps18
  go_wp2_with fail
  generalize w.alloc (.cells #[.int .i64 most, .int .i64 gap, .slice a1 n1 c1, .slice a2 n2 c2] 33) = wa at *
  refine (rchk_any most gap n1 n2 a1 a2 c1 c2 days wins wa φ (hφ.below hi0.out) s1 s2 l1 l2 hm).mono ?_
  rintro e wb ⟨rfl, hb⟩
  have k1 := Lib.hid (k0.out.callB hb)
  have hi1 := Lib.hid (hi0.out.trans (hb.mono hi0.out.size))
  clear hb k0 hi0
  by_cases h0 : ¬ chkF most gap days wins = 0
  · have hne : (chkF most gap days wins != 0) = true := by simp [h0]
    have H0 := Lib.hid h0
    clear h0
    go_wp2
    go_ret3
    exact DueB.of (DueF_chk H0.out) hi1.out
  have h0 := Classical.not_not.1 h0
  have H0 := Lib.hid h0
  rw [H0.out]
  clear h0
  have hok := Lib.hid (chkF_zero l1 l2 H0.out)
  go_wp2_with fail
  refine (rattFault_any n a c l wb φ (hφ.below hi1.out) s ln).mono ?_
  rintro e wc ⟨rfl, hb⟩
  have k2 := Lib.hid (k1.out.callB hb)
  have hi2 := Lib.hid (hi1.out.trans (hb.mono hi1.out.size))
  clear hb k1 hi1
  by_cases h1 : ¬ attF l = 0
  · have hne : (attF l != 0) = true := by simp [h1]
    have H1 := Lib.hid h1
    clear h1
    go_wp2
    go_ret3
    exact DueB.of (DueF_att H0.out H1.out) hi2.out
  have h1 := Classical.not_not.1 h1
  have H1 := Lib.hid h1
  rw [H1.out]
  clear h1
  have hatt := Lib.hid (attF_zero ln H1.out)
  have hn100 := hatt.out.1
  by_cases h2 : outB minute 0 1099511627776 = true
  · have H2 := Lib.hid h2
    clear h2
    go_wp2_with fail
    refine (within_f _ _ _ _ H2.out).mono ?_
    rintro e w' ⟨rfl, rfl⟩
    go_wp2
    go_ret3
    exact DueB.of (DueF_min H0.out H1.out H2.out) hi2.out
  have H2 := Lib.hid (Bool.not_eq_true _ ▸ h2 : outB minute 0 1099511627776 = false)
  clear h2
  go_wp2_with fail
  refine (within_t _ _ _ _ H2.out).mono ?_
  rintro e w' ⟨rfl, rfl⟩
  go_wp2_with fail
  refine (routcome_any n a c l wc φ (hφ.below hi2.out) s ln hn100).mono ?_
  rintro e wd ⟨rfl, hb⟩
  have k3 := Lib.hid (k2.out.callB hb)
  have hi3 := Lib.hid (hi2.out.trans (hb.mono hi2.out.size))
  clear hb k2 hi2
  have hN := Lib.hid (fun h => DueF_none (gap := gap) (wins := wins) (days := days) (most := most) (minute := minute) ln H0.out H1.out H2.out h)
  have hS := Lib.hid (fun h (m0 F T : Int) hm hF (d : Nat) hd => DueF_star (gap := gap) (wins := wins) (days := days) (most := most) (minute := minute) (m0 := m0) (F := F) (T := T) (d := d) ln l2 H0.out H1.out H2.out h hm hF hd)
  generalize outTo l n = o at *
  have e0 := k3.out.cell 0
  have e1 := k3.out.cell 1
  have e2 := k3.out.cell 2
  have e3 := k3.out.cell 3
  simp at e0 e1 e2 e3
  by_cases o1 : o = 1
  · have ob : (o == 1) = true := by simp [o1]
    have O1 := Lib.hid o1
    clear o1
    go_wp2
    go_ret3
    exact DueB.of (hN.out (.inl O1.out)) hi3.out
  by_cases o2 : o = 2
  · have ob1 : (o == 1) = false := by simp [o1]
    have ob : (o == 2) = true := by simp [o2]
    have O1 := Lib.hid o2
    clear o2 o1
    go_wp2
    go_ret3
    exact DueB.of (hN.out (.inr (.inl O1.out))) hi3.out
  by_cases o4 : o = 4
  · have ob1 : (o == 1) = false := by simp [o1]
    have ob2 : (o == 2) = false := by simp [o2]
    have ob : (o == 4) = true := by simp [o4]
    have O1 := Lib.hid o4
    clear o4 o1 o2
    go_wp2
    go_ret3
    exact DueB.of (hN.out (.inr (.inr (.inl O1.out)))) hi3.out
  have ob1 : (o == 1) = false := by simp [o1]
  have ob2 : (o == 2) = false := by simp [o2]
  have ob4 : (o == 4) = false := by simp [o4]
  by_cases om : most ≤ (n : Int)
  · have OM := Lib.hid om
    go_wp2
    go_ret3
    exact DueB.of (hN.out (.inr (.inr (.inr OM.out)))) hi3.out
  have hno : Hid (¬ (o = 1 ∨ o = 2 ∨ o = 4 ∨ most ≤ (n : Int))) := Lib.hid (by omega)
  have bmin := outB_false.1 H2.out
  have bgap := hok.out.gap
  -- the start
  by_cases hpos : 0 < n
  · obtain ⟨b, off, rfl, ff⟩ := s.pairsD ln hpos
    obtain ⟨hbl, q1, _⟩ := ff (n - 1) (by omega) wd (hφ.below hi3.out)
    have ha := hatt.out.2 (n - 1) (by omega)
    have hst : Hid (startM gap l minute = max minute ((l.getD (n - 1) (0, 0)).1 + gap)) := Lib.hid (by rw [startM, ln.out, if_pos hpos])
    clear ff
    generalize (l.getD (n - 1) (0, 0)).1 = lm at *
    have hposi : (0 : Int) < n := by omega
    have hix : 0 ≤ (n : Int) - 1 := by omega
    have hix2 : (n : Int) - 1 < n := by omega
    by_cases hmx : minute < lm + gap
    · have hsm : Hid (startM gap l minute = lm + gap) := Lib.hid (by rw [hst.out]; omega)
      have hbd : 0 ≤ lm + gap ∧ lm + gap ≤ 1099512627776 := by omega
      have hw1 : IntKind.i64.wrap ((n : Int) - 1) = n - 1 := IntWalk.i64_in _ (by omega)
      have hw2 : IntKind.i64.wrap (lm + gap) = lm + gap := IntWalk.i64_in _ (by omega)
      have hto : ((n : Int) - 1).toNat = n - 1 := by omega
      go_wp2_with fail
      go_quiet (fail)
      clear hw1 hw2 hto
      go_wp2_with fail
      have hbx : Hid (∀ q, Below w.heap.size w (wd.drewN q)) := Lib.hid (fun q => bdrewN hi3.out q)
      have kx := Lib.hid (fun q => k3.out.drewN q)
      refine (rnext_any most gap n1 n2 n a1 a2 _ c1 c2 c wins l _ φ (hφ.below (hbx.out _)) s2 s l2 ln hn100 hok.out.p2.2 (Lib.hid hatt.out.2) (Lib.hid hok.out.win)).mono ?_
      rintro e we ⟨rfl, hb⟩
      have k4 := Lib.hid ((kx.out _).callB hb)
      have hi4 := Lib.hid ((hbx.out _).trans (hb.mono (hbx.out _).size))
      clear hb kx hbx e0 e1 e2 e3
      rw [nextTo_101 l wins n n2 hn100 hok.out.p2.1]
      have hFT := Lib.hid (fun F T h => hS.out hno.out (lm + gap) F T hsm.out h)
      obtain ⟨iw, hiw, hew⟩ := nextTo_in ((n : Int) + 1) l wins n n2 (by omega) hok.out.p2.1
      have hwin := hok.out.win iw hiw
      rw [← hew] at hwin
      clear hew hiw
      generalize hft : (nextTo ((n : Int) + 1) l wins n n2).1 = ft at *
      have hft := Lib.hid hft
      obtain ⟨F, T⟩ := ft
      dsimp only at hwin ⊢
      obtain ⟨ds, hstar, hds⟩ := star_ex (days := days) (m0 := (lm + gap)) hbd.1 hwin.1 hwin.2.1 hwin.2.2 hok.out.day
      have hD := Lib.hid (hFT.out F T rfl ds hstar)
      have hstar := Lib.hid hstar
      have hds0 := hstar.out.1
      have z0 := k4.out.cell 0
      have z2 := k4.out.cell 2
      have zl := k4.out.lt
      simp at z0 z2
      have hallo : Hid (Below w.heap.size w (we.alloc (.cells #[.int .i64 F, .int .i64 T] 48))) := Lib.hid (hi4.out.alloc hi4.out.size _)
      clear hFT
      generalize (lm + gap) = m0 at *
      go_wp2
      go_loop [13] (fun v => ∃ d : Nat, v = .int .i64 d ∧ m0 / 1440 ≤ d ∧ d ≤ ds) (fun v => ds + 1 - (intOf v).toNat)
      case atStart => exact ⟨(m0 / 1440).toNat, by rw [Int.toNat_of_nonneg (by omega)], by omega, by omega⟩
      case round =>
        obtain ⟨d, rfl, hd1, hd2⟩ := hrel
        have hat : Hid (atD F m0 d = max m0 ((d : Int) * 1440 + F)) := Lib.hid rfl
        have hle := atD_mono (F := F) (m0 := m0) hd2
        have hnot : Hid (d < ds → ¬ hitD days F T m0 d) := Lib.hid (hstar.out.2.2 d hd1)
        have hx7 : 0 ≤ ((d : Int) + 3) % 7 := by omega
        have fin0 : 1099511627776 < atD F m0 ds → DueF most gap days wins l minute = (0, false, 0) := fun h => by rw [hD.out, if_pos h]
        have fin1 : ¬ 1099511627776 < atD F m0 ds → DueF most gap days wins l minute = (atD F m0 ds, true, 0) := fun h => by rw [hD.out, if_neg h]
        have Fin0 := Lib.hid fin0
        have Fin1 := Lib.hid fin1
        clear fin0 fin1
        have hsl : SlV φ a1 c1 days := s1
        have hmem : Hid (((d : Int) + 3) % 7 ∈ days ↔ ((d : Int) + 3) % 7 ∈ days) := Lib.hid Iff.rfl
        have key : ∀ at_ : Int, atD F m0 d = at_ → 0 ≤ at_ → at_ ≤ 1099512660000 → Hid (at_ = at_) := fun _ _ _ _ => Lib.hid rfl
        clear key
        by_cases hc : m0 < (d : Int) * 1440 + F
        · have hA : Hid (atD F m0 d = (d : Int) * 1440 + F) := Lib.hid (by rw [hat.out]; omega)
          rw [hA.out] at hle
          by_cases hin : ((d : Int) + 3) % 7 ∈ days
          · have HIN := Lib.hid hin
            clear hin
            by_cases hlt : (d : Int) * 1440 + F < (d : Int) * 1440 + T
            · have hhit : Hid (hitD days F T m0 d) := Lib.hid ⟨HIN.out, by rw [hA.out]; exact hlt⟩
              have hdd : d = ds := by
                by_cases hlt2 : d < ds
                · exact absurd hhit.out (hnot.out hlt2)
                · omega
              subst hdd
              by_cases hmax : 1099511627776 < (d : Int) * 1440 + F
              · go_wp2_with fail
                refine (Contains_t n1 a1 c1 days _ _ φ (hφ.below hallo.out) s1 l1 hm HIN.out).mono ?_
                rintro e w' ⟨rfl, rfl⟩
                go_wp2
                go_ret3
                exact DueB.of (Fin0.out (by rw [hA.out]; omega)) hallo.out
              go_wp2_with fail
              refine (Contains_t n1 a1 c1 days _ _ φ (hφ.below hallo.out) s1 l1 hm HIN.out).mono ?_
              rintro e w' ⟨rfl, rfl⟩
              go_wp2
              go_ret3
              exact DueB.of ((Fin1.out (by rw [hA.out]; omega)).trans (by rw [hA.out])) hallo.out
            · exfalso; omega
          · have HIN := Lib.hid hin
            clear hin
            have hne : d < ds := by
              by_cases hlt2 : d < ds
              · exact hlt2
              · have e : d = ds := by omega
                subst e
                exact absurd hstar.out.2.1.1 HIN.out
            go_wp2_with fail
            refine (Contains_f n1 a1 c1 days _ _ φ (hφ.below hallo.out) s1 l1 hm HIN.out).mono ?_
            rintro e w' ⟨rfl, rfl⟩
            go_wp2
            go_round
            case rel => exact ⟨d + 1, by go_num, by omega, by omega⟩
            case measure => simp [intOf]; omega
        · have hA : Hid (atD F m0 d = m0) := Lib.hid (by rw [hat.out]; omega)
          rw [hA.out] at hle
          by_cases hin : ((d : Int) + 3) % 7 ∈ days
          · have HIN := Lib.hid hin
            clear hin
            by_cases hlt : m0 < (d : Int) * 1440 + T
            · have hhit : Hid (hitD days F T m0 d) := Lib.hid ⟨HIN.out, by rw [hA.out]; exact hlt⟩
              have hdd : d = ds := by
                by_cases hlt2 : d < ds
                · exact absurd hhit.out (hnot.out hlt2)
                · omega
              subst hdd
              by_cases hmax : 1099511627776 < m0
              · go_wp2_with fail
                refine (Contains_t n1 a1 c1 days _ _ φ (hφ.below hallo.out) s1 l1 hm HIN.out).mono ?_
                rintro e w' ⟨rfl, rfl⟩
                go_wp2
                go_ret3
                exact DueB.of (Fin0.out (by rw [hA.out]; omega)) hallo.out
              go_wp2_with fail
              refine (Contains_t n1 a1 c1 days _ _ φ (hφ.below hallo.out) s1 l1 hm HIN.out).mono ?_
              rintro e w' ⟨rfl, rfl⟩
              go_wp2
              go_ret3
              exact DueB.of ((Fin1.out (by rw [hA.out]; omega)).trans (by rw [hA.out])) hallo.out
            · have hne : d < ds := by
                by_cases hlt2 : d < ds
                · exact hlt2
                · have e : d = ds := by omega
                  subst e
                  have := hstar.out.2.1.2
                  rw [hA.out] at this
                  omega
              go_wp2_with fail
              refine (Contains_t n1 a1 c1 days _ _ φ (hφ.below hallo.out) s1 l1 hm HIN.out).mono ?_
              rintro e w' ⟨rfl, rfl⟩
              go_wp2
              go_round
              case rel => exact ⟨d + 1, by go_num, by omega, by omega⟩
              case measure => simp [intOf]; omega
          · have HIN := Lib.hid hin
            clear hin
            have hne : d < ds := by
              by_cases hlt2 : d < ds
              · exact hlt2
              · have e : d = ds := by omega
                subst e
                exact absurd hstar.out.2.1.1 HIN.out
            go_wp2_with fail
            refine (Contains_f n1 a1 c1 days _ _ φ (hφ.below hallo.out) s1 l1 hm HIN.out).mono ?_
            rintro e w' ⟨rfl, rfl⟩
            go_wp2
            go_round
            case rel => exact ⟨d + 1, by go_num, by omega, by omega⟩
            case measure => simp [intOf]; omega
    · have hsm : Hid (startM gap l minute = minute) := Lib.hid (by rw [hst.out]; omega)
      have hbd : 0 ≤ minute ∧ minute ≤ 1099512627776 := by omega
      have hw1 : IntKind.i64.wrap ((n : Int) - 1) = n - 1 := IntWalk.i64_in _ (by omega)
      have hw2 : IntKind.i64.wrap (lm + gap) = lm + gap := IntWalk.i64_in _ (by omega)
      have hto : ((n : Int) - 1).toNat = n - 1 := by omega
      go_wp2_with fail
      go_quiet (fail)
      clear hw1 hw2 hto
      go_wp2_with fail
      have hbx : Hid (∀ q, Below w.heap.size w (wd.drewN q)) := Lib.hid (fun q => bdrewN hi3.out q)
      have kx := Lib.hid (fun q => k3.out.drewN q)
      refine (rnext_any most gap n1 n2 n a1 a2 _ c1 c2 c wins l _ φ (hφ.below (hbx.out _)) s2 s l2 ln hn100 hok.out.p2.2 (Lib.hid hatt.out.2) (Lib.hid hok.out.win)).mono ?_
      rintro e we ⟨rfl, hb⟩
      have k4 := Lib.hid ((kx.out _).callB hb)
      have hi4 := Lib.hid ((hbx.out _).trans (hb.mono (hbx.out _).size))
      clear hb kx hbx e0 e1 e2 e3
      rw [nextTo_101 l wins n n2 hn100 hok.out.p2.1]
      have hFT := Lib.hid (fun F T h => hS.out hno.out minute F T hsm.out h)
      obtain ⟨iw, hiw, hew⟩ := nextTo_in ((n : Int) + 1) l wins n n2 (by omega) hok.out.p2.1
      have hwin := hok.out.win iw hiw
      rw [← hew] at hwin
      clear hew hiw
      generalize hft : (nextTo ((n : Int) + 1) l wins n n2).1 = ft at *
      have hft := Lib.hid hft
      obtain ⟨F, T⟩ := ft
      dsimp only at hwin ⊢
      obtain ⟨ds, hstar, hds⟩ := star_ex (days := days) (m0 := minute) hbd.1 hwin.1 hwin.2.1 hwin.2.2 hok.out.day
      have hD := Lib.hid (hFT.out F T rfl ds hstar)
      have hstar := Lib.hid hstar
      have hds0 := hstar.out.1
      have z0 := k4.out.cell 0
      have z2 := k4.out.cell 2
      have zl := k4.out.lt
      simp at z0 z2
      have hallo : Hid (Below w.heap.size w (we.alloc (.cells #[.int .i64 F, .int .i64 T] 48))) := Lib.hid (hi4.out.alloc hi4.out.size _)
      clear hFT
      go_wp2
      go_loop [13] (fun v => ∃ d : Nat, v = .int .i64 d ∧ minute / 1440 ≤ d ∧ d ≤ ds) (fun v => ds + 1 - (intOf v).toNat)
      case atStart => exact ⟨(minute / 1440).toNat, by rw [Int.toNat_of_nonneg (by omega)], by omega, by omega⟩
      case round =>
        obtain ⟨d, rfl, hd1, hd2⟩ := hrel
        have hat : Hid (atD F minute d = max minute ((d : Int) * 1440 + F)) := Lib.hid rfl
        have hle := atD_mono (F := F) (m0 := minute) hd2
        have hnot : Hid (d < ds → ¬ hitD days F T minute d) := Lib.hid (hstar.out.2.2 d hd1)
        have hx7 : 0 ≤ ((d : Int) + 3) % 7 := by omega
        have fin0 : 1099511627776 < atD F minute ds → DueF most gap days wins l minute = (0, false, 0) := fun h => by rw [hD.out, if_pos h]
        have fin1 : ¬ 1099511627776 < atD F minute ds → DueF most gap days wins l minute = (atD F minute ds, true, 0) := fun h => by rw [hD.out, if_neg h]
        have Fin0 := Lib.hid fin0
        have Fin1 := Lib.hid fin1
        clear fin0 fin1
        have hsl : SlV φ a1 c1 days := s1
        have hmem : Hid (((d : Int) + 3) % 7 ∈ days ↔ ((d : Int) + 3) % 7 ∈ days) := Lib.hid Iff.rfl
        have key : ∀ at_ : Int, atD F minute d = at_ → 0 ≤ at_ → at_ ≤ 1099512660000 → Hid (at_ = at_) := fun _ _ _ _ => Lib.hid rfl
        clear key
        by_cases hc : minute < (d : Int) * 1440 + F
        · have hA : Hid (atD F minute d = (d : Int) * 1440 + F) := Lib.hid (by rw [hat.out]; omega)
          rw [hA.out] at hle
          by_cases hin : ((d : Int) + 3) % 7 ∈ days
          · have HIN := Lib.hid hin
            clear hin
            by_cases hlt : (d : Int) * 1440 + F < (d : Int) * 1440 + T
            · have hhit : Hid (hitD days F T minute d) := Lib.hid ⟨HIN.out, by rw [hA.out]; exact hlt⟩
              have hdd : d = ds := by
                by_cases hlt2 : d < ds
                · exact absurd hhit.out (hnot.out hlt2)
                · omega
              subst hdd
              by_cases hmax : 1099511627776 < (d : Int) * 1440 + F
              · go_wp2_with fail
                refine (Contains_t n1 a1 c1 days _ _ φ (hφ.below hallo.out) s1 l1 hm HIN.out).mono ?_
                rintro e w' ⟨rfl, rfl⟩
                go_wp2
                go_ret3
                exact DueB.of (Fin0.out (by rw [hA.out]; omega)) hallo.out
              go_wp2_with fail
              refine (Contains_t n1 a1 c1 days _ _ φ (hφ.below hallo.out) s1 l1 hm HIN.out).mono ?_
              rintro e w' ⟨rfl, rfl⟩
              go_wp2
              go_ret3
              exact DueB.of ((Fin1.out (by rw [hA.out]; omega)).trans (by rw [hA.out])) hallo.out
            · exfalso; omega
          · have HIN := Lib.hid hin
            clear hin
            have hne : d < ds := by
              by_cases hlt2 : d < ds
              · exact hlt2
              · have e : d = ds := by omega
                subst e
                exact absurd hstar.out.2.1.1 HIN.out
            go_wp2_with fail
            refine (Contains_f n1 a1 c1 days _ _ φ (hφ.below hallo.out) s1 l1 hm HIN.out).mono ?_
            rintro e w' ⟨rfl, rfl⟩
            go_wp2
            go_round
            case rel => exact ⟨d + 1, by go_num, by omega, by omega⟩
            case measure => simp [intOf]; omega
        · have hA : Hid (atD F minute d = minute) := Lib.hid (by rw [hat.out]; omega)
          rw [hA.out] at hle
          by_cases hin : ((d : Int) + 3) % 7 ∈ days
          · have HIN := Lib.hid hin
            clear hin
            by_cases hlt : minute < (d : Int) * 1440 + T
            · have hhit : Hid (hitD days F T minute d) := Lib.hid ⟨HIN.out, by rw [hA.out]; exact hlt⟩
              have hdd : d = ds := by
                by_cases hlt2 : d < ds
                · exact absurd hhit.out (hnot.out hlt2)
                · omega
              subst hdd
              by_cases hmax : 1099511627776 < minute
              · exfalso; omega
              go_wp2_with fail
              refine (Contains_t n1 a1 c1 days _ _ φ (hφ.below hallo.out) s1 l1 hm HIN.out).mono ?_
              rintro e w' ⟨rfl, rfl⟩
              go_wp2
              go_ret3
              exact DueB.of ((Fin1.out (by rw [hA.out]; omega)).trans (by rw [hA.out])) hallo.out
            · have hne : d < ds := by
                by_cases hlt2 : d < ds
                · exact hlt2
                · have e : d = ds := by omega
                  subst e
                  have := hstar.out.2.1.2
                  rw [hA.out] at this
                  omega
              go_wp2_with fail
              refine (Contains_t n1 a1 c1 days _ _ φ (hφ.below hallo.out) s1 l1 hm HIN.out).mono ?_
              rintro e w' ⟨rfl, rfl⟩
              go_wp2
              go_round
              case rel => exact ⟨d + 1, by go_num, by omega, by omega⟩
              case measure => simp [intOf]; omega
          · have HIN := Lib.hid hin
            clear hin
            have hne : d < ds := by
              by_cases hlt2 : d < ds
              · exact hlt2
              · have e : d = ds := by omega
                subst e
                exact absurd hstar.out.2.1.1 HIN.out
            go_wp2_with fail
            refine (Contains_f n1 a1 c1 days _ _ φ (hφ.below hallo.out) s1 l1 hm HIN.out).mono ?_
            rintro e w' ⟨rfl, rfl⟩
            go_wp2
            go_round
            case rel => exact ⟨d + 1, by go_num, by omega, by omega⟩
            case measure => simp [intOf]; omega
  · have hsm : Hid (startM gap l minute = minute) := Lib.hid (by rw [startM, ln.out, if_neg hpos])
    have hbd : 0 ≤ minute ∧ minute ≤ 1099512627776 := by omega
    go_wp2_with fail
    have hbx := hi3
    have kx := k3
    refine (rnext_any most gap n1 n2 n a1 a2 _ c1 c2 c wins l _ φ (hφ.below hbx.out) s2 s l2 ln hn100 hok.out.p2.2 (Lib.hid hatt.out.2) (Lib.hid hok.out.win)).mono ?_
    rintro e we ⟨rfl, hb⟩
    have k4 := Lib.hid (kx.out.callB hb)
    have hi4 := Lib.hid (hbx.out.trans (hb.mono hbx.out.size))
    clear hb kx hbx e0 e1 e2 e3
    rw [nextTo_101 l wins n n2 hn100 hok.out.p2.1]
    have hFT := Lib.hid (fun F T h => hS.out hno.out minute F T hsm.out h)
    obtain ⟨iw, hiw, hew⟩ := nextTo_in ((n : Int) + 1) l wins n n2 (by omega) hok.out.p2.1
    have hwin := hok.out.win iw hiw
    rw [← hew] at hwin
    clear hew hiw
    generalize hft : (nextTo ((n : Int) + 1) l wins n n2).1 = ft at *
    have hft := Lib.hid hft
    obtain ⟨F, T⟩ := ft
    dsimp only at hwin ⊢
    obtain ⟨ds, hstar, hds⟩ := star_ex (days := days) (m0 := minute) hbd.1 hwin.1 hwin.2.1 hwin.2.2 hok.out.day
    have hD := Lib.hid (hFT.out F T rfl ds hstar)
    have hstar := Lib.hid hstar
    have hds0 := hstar.out.1
    have z0 := k4.out.cell 0
    have z2 := k4.out.cell 2
    have zl := k4.out.lt
    simp at z0 z2
    have hallo : Hid (Below w.heap.size w (we.alloc (.cells #[.int .i64 F, .int .i64 T] 48))) := Lib.hid (hi4.out.alloc hi4.out.size _)
    clear hFT
    go_wp2
    go_loop [13] (fun v => ∃ d : Nat, v = .int .i64 d ∧ minute / 1440 ≤ d ∧ d ≤ ds) (fun v => ds + 1 - (intOf v).toNat)
    case atStart => exact ⟨(minute / 1440).toNat, by rw [Int.toNat_of_nonneg (by omega)], by omega, by omega⟩
    case round =>
      obtain ⟨d, rfl, hd1, hd2⟩ := hrel
      have hat : Hid (atD F minute d = max minute ((d : Int) * 1440 + F)) := Lib.hid rfl
      have hle := atD_mono (F := F) (m0 := minute) hd2
      have hnot : Hid (d < ds → ¬ hitD days F T minute d) := Lib.hid (hstar.out.2.2 d hd1)
      have hx7 : 0 ≤ ((d : Int) + 3) % 7 := by omega
      have fin0 : 1099511627776 < atD F minute ds → DueF most gap days wins l minute = (0, false, 0) := fun h => by rw [hD.out, if_pos h]
      have fin1 : ¬ 1099511627776 < atD F minute ds → DueF most gap days wins l minute = (atD F minute ds, true, 0) := fun h => by rw [hD.out, if_neg h]
      have Fin0 := Lib.hid fin0
      have Fin1 := Lib.hid fin1
      clear fin0 fin1
      have hsl : SlV φ a1 c1 days := s1
      have hmem : Hid (((d : Int) + 3) % 7 ∈ days ↔ ((d : Int) + 3) % 7 ∈ days) := Lib.hid Iff.rfl
      have key : ∀ at_ : Int, atD F minute d = at_ → 0 ≤ at_ → at_ ≤ 1099512660000 → Hid (at_ = at_) := fun _ _ _ _ => Lib.hid rfl
      clear key
      by_cases hc : minute < (d : Int) * 1440 + F
      · have hA : Hid (atD F minute d = (d : Int) * 1440 + F) := Lib.hid (by rw [hat.out]; omega)
        rw [hA.out] at hle
        by_cases hin : ((d : Int) + 3) % 7 ∈ days
        · have HIN := Lib.hid hin
          clear hin
          by_cases hlt : (d : Int) * 1440 + F < (d : Int) * 1440 + T
          · have hhit : Hid (hitD days F T minute d) := Lib.hid ⟨HIN.out, by rw [hA.out]; exact hlt⟩
            have hdd : d = ds := by
              by_cases hlt2 : d < ds
              · exact absurd hhit.out (hnot.out hlt2)
              · omega
            subst hdd
            by_cases hmax : 1099511627776 < (d : Int) * 1440 + F
            · go_wp2_with fail
              refine (Contains_t n1 a1 c1 days _ _ φ (hφ.below hallo.out) s1 l1 hm HIN.out).mono ?_
              rintro e w' ⟨rfl, rfl⟩
              go_wp2
              go_ret3
              exact DueB.of (Fin0.out (by rw [hA.out]; omega)) hallo.out
            go_wp2_with fail
            refine (Contains_t n1 a1 c1 days _ _ φ (hφ.below hallo.out) s1 l1 hm HIN.out).mono ?_
            rintro e w' ⟨rfl, rfl⟩
            go_wp2
            go_ret3
            exact DueB.of ((Fin1.out (by rw [hA.out]; omega)).trans (by rw [hA.out])) hallo.out
          · exfalso; omega
        · have HIN := Lib.hid hin
          clear hin
          have hne : d < ds := by
            by_cases hlt2 : d < ds
            · exact hlt2
            · have e : d = ds := by omega
              subst e
              exact absurd hstar.out.2.1.1 HIN.out
          go_wp2_with fail
          refine (Contains_f n1 a1 c1 days _ _ φ (hφ.below hallo.out) s1 l1 hm HIN.out).mono ?_
          rintro e w' ⟨rfl, rfl⟩
          go_wp2
          go_round
          case rel => exact ⟨d + 1, by go_num, by omega, by omega⟩
          case measure => simp [intOf]; omega
      · have hA : Hid (atD F minute d = minute) := Lib.hid (by rw [hat.out]; omega)
        rw [hA.out] at hle
        by_cases hin : ((d : Int) + 3) % 7 ∈ days
        · have HIN := Lib.hid hin
          clear hin
          by_cases hlt : minute < (d : Int) * 1440 + T
          · have hhit : Hid (hitD days F T minute d) := Lib.hid ⟨HIN.out, by rw [hA.out]; exact hlt⟩
            have hdd : d = ds := by
              by_cases hlt2 : d < ds
              · exact absurd hhit.out (hnot.out hlt2)
              · omega
            subst hdd
            by_cases hmax : 1099511627776 < minute
            · exfalso; omega
            go_wp2_with fail
            refine (Contains_t n1 a1 c1 days _ _ φ (hφ.below hallo.out) s1 l1 hm HIN.out).mono ?_
            rintro e w' ⟨rfl, rfl⟩
            go_wp2
            go_ret3
            exact DueB.of ((Fin1.out (by rw [hA.out]; omega)).trans (by rw [hA.out])) hallo.out
          · have hne : d < ds := by
              by_cases hlt2 : d < ds
              · exact hlt2
              · have e : d = ds := by omega
                subst e
                have := hstar.out.2.1.2
                rw [hA.out] at this
                omega
            go_wp2_with fail
            refine (Contains_t n1 a1 c1 days _ _ φ (hφ.below hallo.out) s1 l1 hm HIN.out).mono ?_
            rintro e w' ⟨rfl, rfl⟩
            go_wp2
            go_round
            case rel => exact ⟨d + 1, by go_num, by omega, by omega⟩
            case measure => simp [intOf]; omega
        · have HIN := Lib.hid hin
          clear hin
          have hne : d < ds := by
            by_cases hlt2 : d < ds
            · exact hlt2
            · have e : d = ds := by omega
              subst e
              exact absurd hstar.out.2.1.1 HIN.out
          go_wp2_with fail
          refine (Contains_f n1 a1 c1 days _ _ φ (hφ.below hallo.out) s1 l1 hm HIN.out).mono ?_
          rintro e w' ⟨rfl, rfl⟩
          go_wp2
          go_round
          case rel => exact ⟨d + 1, by go_num, by omega, by omega⟩
          case measure => simp [intOf]; omega
end Go.Proofs.Ytmgdeenjdoennaa
