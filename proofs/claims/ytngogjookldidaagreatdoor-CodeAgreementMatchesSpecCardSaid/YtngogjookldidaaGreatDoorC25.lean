/- The walk of Alpha, the program's side. Conditions: the library's table of powers of ten reads as it was laid. -/
import Derived.Test.YtngogjookldidaaGreatDoorCG
namespace Go.Proofs.YtngogjookldidaaGreatDoor
open Go.RowKit
set_option linter.unusedVariables false
set_option linter.unusedSimpArgs false
set_option maxRecDepth 100000 in
set_option maxHeartbeats 4000000 in
theorem Alpha_any {w : World} {a : Option Addr} {c n : Nat} {l : List Nod} {φ : Phi} (hφ : Fz φ w) (hp : PowP φ) (s : SlV φ a c l) (hn : Hid (l.length = n)) (hm : n ≤ 9223372036854775807) {ac : Option Addr} {cc nc : Nat} {cs : List Cdg} (sc : SlV φ ac cc cs) (hnc : Hid (cs.length = nc)) (hmc : nc ≤ 9223372036854775807) (tr : Bool) {S T : ByteArray} {F : Int} (hR : Hid (alpF l cs tr = (S, T, F))) :
    Calls Tryz.prog 9 #[.slice a n c, .slice ac nc cc, .bool tr] w (fun e w' => e = .returned (.tuple #[.agg #[.string S, .string T], .int .i64 F]) ∧ Below w.heap.size w w') := by
  have hRS := Lib.hid (RsSt.start (Inv.start hφ) #[.string ⟨#[]⟩, .string ⟨#[]⟩] 32)
  have hmm := @run_makeMap Tryz.prog
  have HP := Lib.hid hp
  clear hφ hp
  go_enter Tryz.func9, Tryz.ntmps9
  go_wp2_with fail
  refine (coders_any hRS.out.inv.fz s hn hm sc hnc hmc).mono ?_
  rintro e w1 ⟨hb1, ⟨h0, p, rfl⟩ | ⟨h0, hok, bt, m1, m2, rfl, ht⟩⟩
  · have H1 := Lib.hid (hRS.out.callB hb1)
    obtain ⟨eb, heb⟩ : ∃ q, Hid (frcF l cs = q) := ⟨_, Lib.hid rfl⟩
    have hR2 : Hid ((S, T, F) = (⟨#[]⟩, ⟨#[]⟩, eb)) := Lib.hid (by rw [← hR.out, alpF, if_pos h0, heb.out])
    rw [heb.out] at h0 ⊢
    have hg : ((eb : Int) != 0) = true := by simp [h0]
    clear hb1 hRS h0 hmm
    generalize w.heap.size = b6 at *
    have r0 : w1.cell? ⟨b6, 0, none⟩ = some (.string ⟨#[]⟩) := H1.out.k.cell 0
    have r1' : w1.cell? ⟨b6, 1, none⟩ = some (.string ⟨#[]⟩) := H1.out.k.cell 1
    have r2' := H1.out.k.frz 0
    have r3' := H1.out.k.frz 1
    go_wp2
    have hZ := Lib.hid ((H1.out.k.set 0 (.string ⟨#[]⟩)).set 1 (.string ⟨#[]⟩))
    have e0 : _ = some (Value.string ⟨#[]⟩) := hZ.out.cell 0
    have e1 : _ = some (Value.string ⟨#[]⟩) := hZ.out.cell 1
    (try simp only [Exit.inBlock, Exit.then])
    refine bodyPost_ret (v := .tuple #[.agg #[.string ⟨#[]⟩, .string ⟨#[]⟩], .int .i64 eb]) (by simp [results, Tryz.results9, go_sem, e0, e1]) rfl ?_
    have h := hR2.out
    cases h
    exact ⟨rfl, Below_grown (Below_grown H1.out.inv.bel (grown_setC _ _ _ _) H1.out.l) (grown_setC _ _ _ _) H1.out.l⟩
  have hfc := Lib.hid h0
  have HO := Lib.hid hok
  have hn2 : nc ≤ 20000 := (cdg_ok hnc hfc.out).1
  have hR2 : Hid (alpR l tr (grpK cs nc) = (S, T, F)) := Lib.hid (by rw [← hR.out, alpF, if_neg (by rw [hfc.out]; simp), hnc.out])
  have H1 := Lib.hid (hRS.out.callB hb1)
  have hA0 := Lib.hid (AlS.start H1.out.inv.bel H1.out.inv.fz ht H1.out.k H1.out.l H1.out.f)
  have h50 : Hid (∀ g ∈ grpK cs nc, g.length ≤ 50) := Lib.hid (by have := grp_50 hfc.out; rwa [hnc.out] at this)
  have hcd : Hid (∀ g ∈ grpK cs nc, ∀ c ∈ codesG g, (ix l c).isSome = true) := Lib.hid (by have := grp_cod hfc.out; rwa [hnc.out] at this)
  have hfl : Hid (((grpK cs nc).map List.length).sum = nc) := Lib.hid (grpK_flat cs nc (by rw [hnc.out]; omega))
  have hgo := Lib.hid (grpK_ok cs nc (by rw [hnc.out]; omega))
  clear h0 hok hb1 ht hRS hR
  go_wp2_with fail
  clear hmm
  generalize ((w1.alloc (.map #[] 0)).alloc (.map #[] 0)) = w2 at *
  generalize w1.heap.size = r1 at *
  generalize hr2 : r1 + 1 = r2 at *
  generalize hb6 : w.heap.size = b6 at *
  have hb6' := Lib.hid hb6
  clear hr2 hb6 H1
  have hsc2 : SlV φ ac cc cs := sc
  refine (cases_any hA0.out.fz sc hnc hn2).mono ?_
  rintro e w3 ⟨ag, cg, φ2, rfl, hi3, sg⟩
  have hA3 := Lib.hid (hA0.out.call hi3)
  have L3 := Lib.hid hi3.le
  have s3 := s.mono hi3.le
  obtain ⟨gs, hgs⟩ : ∃ gs, Hid (grpK cs nc = gs) := ⟨_, Lib.hid rfl⟩
  rw [hgs.out] at sg hgo h50 hcd hfl hR2 ⊢
  obtain ⟨ng, hng⟩ : ∃ ng, Hid (gs.length = ng) := ⟨_, Lib.hid rfl⟩
  have hng2 : ng ≤ 20000 := by have := hgo.out.2.1; rw [hng.out] at this; omega
  have hal : Hid ((alL gs).length ≤ 20000) := Lib.hid (by have := alL_len gs; rw [hfl.out] at this; omega)
  have htot : Hid (totN l tr (bigG gs) ≤ 256000000) := Lib.hid (tot_le HO.out tr h50.out hcd.out (by rw [hfl.out]; omega))
  rw [hng.out]
  clear hA0 hi3 hsc2 hgs
  go_wp2
  go_loopw [12, 38] (fun v12 i wr => ∃ (k : Nat), k ≤ ng ∧ i = .int .i64 k ∧ v12 = .int .i64 ((alL (gs.take k)).length : Nat) ∧ Hid (AlS w φ2 bt a c n m1 m2 l b6 r1 r2 (coF (alL (gs.take k))) (wiF l tr (bigG (gs.take k))) wr)) (fun _ i _ => ng - (intOf i).toNat)
  case atStart => exact ⟨0, Nat.zero_le _, rfl, rfl, Lib.hid (by rw [show coF (alL (gs.take 0)) = fun _ => none from coF_nil, show wiF l tr (bigG (gs.take 0)) = fun _ => none from wiF_nil l tr]; exact hA3.out)⟩
  case round =>
    clear hA3
    obtain ⟨k, hk, rfl, rfl, hA⟩ := hrel
    by_cases hlt : k < ng
    · obtain ⟨bg, off, rfl, f⟩ := sg.listsC hng hlt
      obtain ⟨ak, ck, sk, f⟩ := f k hlt
      obtain ⟨hb, c1⟩ := f wr hA.out.fz
      have htk := Lib.hid (take_snocD [] gs k ng hng.out hlt)
      have hgm : gs.getD k [] ∈ gs := by rw [getD_elem0 [] gs k (by rw [hng.out]; exact hlt)]; exact List.getElem_mem _
      have hg50 := h50.out _ hgm
      have hgcd := Lib.hid (hcd.out _ hgm)
      have hal2 : Hid ((alL (gs.take (k + 1))).length ≤ 20000) := Lib.hid (by
        have h1 := alL_len (gs.take (k + 1))
        have h2 : ((gs.take (k + 1)).map List.length).sum ≤ nc := by
          have h3 := hfl.out
          rw [← List.take_append_drop (k + 1) gs, List.map_append, List.sum_append] at h3
          omega
        omega)
      have htk2 : Hid (totN l tr (bigG (gs.take (k + 1))) ≤ 256000000) := Lib.hid (tot_le HO.out tr (fun g hg => h50.out g (List.mem_of_mem_take hg)) (fun g hg => hcd.out g (List.mem_of_mem_take hg)) (by
        have h3 := hfl.out
        rw [← List.take_append_drop (k + 1) gs, List.map_append, List.sum_append] at h3
        omega))
      clear f hgm
      rw [htk.out] at hal2 htk2
      generalize gs.getD k [] = g at *
      obtain ⟨nk, hnk⟩ : ∃ nk, Hid (g.length = nk) := ⟨_, Lib.hid rfl⟩
      rw [hnk.out] at c1 hg50
      by_cases h2 : nk < 2
      · have e1 : Hid (alL (gs.take (k + 1)) = alL (gs.take k)) := Lib.hid (by rw [htk.out, alL_skip _ _ (by rw [hnk.out]; omega)])
        have e2 : Hid (bigG (gs.take (k + 1)) = bigG (gs.take k)) := Lib.hid (by rw [htk.out, bigG_snoc, if_neg (by rw [hnk.out]; omega)])
        go_wp2
        go_roundw
        case rel => exact ⟨k + 1, by omega, by go_num, by rw [e1.out], Lib.hid (by rw [e1.out, e2.out]; exact hA.out)⟩
        case measure => (simp [intOf] <;> omega)
      have e1 : Hid (alL (gs.take (k + 1)) = alL (gs.take k) ++ codesG g) := Lib.hid (by rw [htk.out, alL_snoc _ _ (by rw [hnk.out]; omega)])
      have e2 : Hid (bigG (gs.take (k + 1)) = bigG (gs.take k) ++ [g]) := Lib.hid (by rw [htk.out, bigG_snoc, if_pos (by rw [hnk.out]; omega)])
      have hmm := @run_makeMap Tryz.prog
      have hI0 := Lib.hid hA.out.own
      go_wp2
      clear hmm c1 hb hA
      rw [show (fun _ => none : Int → Option Int) = coF (codesG (g.take 0)) from coF_nil.symm, show coF (alL (gs.take k)) = coF (alL (gs.take k) ++ codesG (g.take 0)) by rw [show codesG (g.take 0) = [] from rfl, List.append_nil]] at hI0
      generalize wr.alloc (.map #[] 0) = wb at *
      generalize wr.heap.size = r3 at *
      have hal3 : Hid ((alL (gs.take k)).length + nk ≤ 20000) := Lib.hid (by
        have h := hal2.out
        rw [← htk.out, e1.out, List.length_append] at h
        unfold codesG at h
        rw [List.length_map, hnk.out] at h
        exact h)
      go_loopw [48] (fun i wi => ∃ (j : Nat), j ≤ nk ∧ i = .int .i64 j ∧ Hid (AlI w φ2 bt a c n m1 m2 l b6 r1 r2 (coF (alL (gs.take k) ++ codesG (g.take j))) (wiF l tr (bigG (gs.take k))) r3 (coF (codesG (g.take j))) wi)) (fun i _ => nk - (intOf i).toNat)
      case atStart => exact ⟨0, Nat.zero_le _, rfl, hI0⟩
      case round =>
        clear hI0
        rename World => wi
        obtain ⟨j, hj, rfl, hI⟩ := hrel
        by_cases hjl : j < nk
        · obtain ⟨bx, ox, rfl, fx⟩ := sk.cdgD hnk hjl
          obtain ⟨hbx, d1, d2, d3⟩ := fx j hjl wi hI.out.st.fz
          have htj := Lib.hid (take_snocD cdg0 g j nk hnk.out hjl)
          clear fx
          generalize hX : g.getD j cdg0 = X at *
          obtain ⟨x1, x2, x3⟩ := X
          dsimp only at d1 d2 d3
          have hcg : Hid (codesG (g.take (j + 1)) = codesG (g.take j) ++ [x3]) := Lib.hid (by rw [htj.out]; unfold codesG; rw [List.map_append]; rfl)
          have hcl : (codesG (g.take j)).length ≤ nk := by unfold codesG; rw [List.length_map, List.length_take]; omega
          have hI2 := Lib.hid (hI.out.callB ((Below.refl _ _).alloc (Nat.le_refl _) (.cells #[.int .i64 x1, .int .i64 x2, .int .i64 x3] 70)))
          have hK := Lib.hid (Blk.new wi #[.int .i64 x1, .int .i64 x2, .int .i64 x3] 70)
          have hne : Hid (wi.heap.size ≠ r1 ∧ wi.heap.size ≠ r3) := Lib.hid ⟨by have := hI.out.st.ma.lt; omega, by have := hI.out.mo.lt; omega⟩
          clear hX htj
          go_upto_region 15 with (fail)
          clear d1 d2 d3 hbx hI
          generalize (wi.alloc (.cells #[.int .i64 x1, .int .i64 x2, .int .i64 x3] 70)) = wj at *
          generalize wi.heap.size = bj at *
          have l1 := hI2.out.mo.look_no x3
          rw [coF_getD] at l1
          obtain ⟨o1, p1, K7⟩ := hI2.out.putO x3 ((cnA (codesG (g.take j)) x3 : Int) + 1)
          rw [coF_step, ← hcg.out] at K7
          have l2 := K7.st.ma.look_no x3
          rw [coF_getD] at l2
          obtain ⟨o2, p2, K8⟩ := K7.putA x3 ((cnA (alL (gs.take k) ++ codesG (g.take j)) x3 : Int) + 1)
          rw [coF_step, List.append_assoc, ← hcg.out] at K8
          have B7 := Blk.grown hK.out (setMap_grown wj r3 o1) hne.out.2
          have y0 : wj.cell? ⟨bj, 2, none⟩ = some (.int .i64 x3) := hK.out.cell 2
          have y1 : (setMap wj r3 o1).cell? ⟨bj, 2, none⟩ = some (.int .i64 x3) := B7.cell 2
          have u1 : cnA (codesG (g.take j)) x3 ≤ 20000 := Nat.le_trans (cntP_le _ _) (by omega)
          have u2 : cnA (alL (gs.take k) ++ codesG (g.take j)) x3 ≤ 20000 := Nat.le_trans (cntP_le _ _) (by have := hal3.out; rw [List.length_append]; omega)
          have HK8 := Lib.hid K8
          clear K7 K8 B7 hI2 hK
          generalize setMap (setMap wj r3 o1) r1 o2 = w8 at *
          generalize setMap wj r3 o1 = w7 at *
          generalize cnA (codesG (g.take j)) x3 = N1 at *
          generalize cnA (alL (gs.take k) ++ codesG (g.take j)) x3 = N2 at *
          go_wp2
          go_roundw
          case rel => exact ⟨j + 1, by omega, by go_num, HK8⟩
          case measure => (simp [intOf] <;> omega)
        · obtain rfl : nk = j := by omega
          have ex : g.take nk = g := by rw [← hnk.out, List.take_length]
          rw [ex] at hI
          have hsm := Lib.hid hI.out.mo
          have hSc := Lib.hid (fun W (hx : AlI w φ2 bt a c n m1 m2 l b6 r1 r2 (coF (alL (gs.take k) ++ codesG g)) (wiF l tr (bigG (gs.take k))) r3 (coF (codesG g)) W) => scatter_any hx.st.fz s3 hx.st.tr HO hx.mo (by have := hal3.out; unfold codesG; rw [List.length_map, hnk.out]; omega) hgcd tr)
          have hlk := Lib.hid (fun W (hx : AlI w φ2 bt a c n m1 m2 l b6 r1 r2 (coF (alL (gs.take k) ++ codesG g)) (wiF l tr (bigG (gs.take k))) r3 (coF (codesG g)) W) => (by have h := hx.st.mw.look_no (nk : Int); rw [wiF_getD] at h; exact h : (Instr.lookup 53 (.map (some r2)) (.int .i64 (nk : Int)) false).run Tryz.prog W = .ok (.int .i64 (wiN l tr (bigG (gs.take k)) (nk : Int) : Int)) W))
          have hstep : Hid (updF (wiF l tr (bigG (gs.take k))) (nk : Int) ((wiN l tr (bigG (gs.take k)) (nk : Int) : Int) + (scatN l tr (codesG g) : Int)) = wiF l tr (bigG (gs.take (k + 1)))) := Lib.hid (by have h := wiF_step l tr (bigG (gs.take k)) g; rw [hnk.out] at h; rw [e2.out]; exact h)
          have hwl : wiN l tr (bigG (gs.take k)) (nk : Int) + scatN l tr (codesG g) ≤ 256000000 := by
            have h := wi_le (l := l) (tr := tr) (B := bigG (gs.take (k + 1))) (nk : Int)
            have h5 := htk2.out
            rw [← htk.out] at h5
            rw [e2.out, wiN_snoc, if_pos (by rw [hnk.out])] at h
            rw [e2.out] at h5
            omega
          have hlen : Hid ((alL (gs.take (k + 1))).length = (alL (gs.take k)).length + nk) := Lib.hid (by rw [e1.out, List.length_append]; unfold codesG; rw [List.length_map, hnk.out])
          have hal4 := hal3.out
          have hI3 := Lib.hid (hI.out.callB (bdrewN (Below.refl _ wi) 1))
          have hI3 : Hid (AlI w φ2 bt a c n m1 m2 l b6 r1 r2 (coF (alL (gs.take k) ++ codesG g)) (wiF l tr (bigG (gs.take k))) r3 (coF (codesG g)) wi.drew) := hI3
          generalize hsn : scatN l tr (codesG g) = sn at *
          generalize hwn : wiN l tr (bigG (gs.take k)) (nk : Int) = wn at *
          generalize hln : (alL (gs.take k)).length = ln at *
          clear hsn hwn hln hsm
          go_upto_region 19 with (fail)
          have hwr : IntKind.i64.wrap ((wn : Int) + (sn : Int)) = (wn : Int) + (sn : Int) := IntWalk.i64_in _ (by omega)
          have y0 := hlk.out wi.drew hI3.out
          have y9 := hlk.out wi hI.out
          go_region_law (first | (go_simp; go_at_call 27; (with_reducible refine (hSc.out _ hI3.out).mono ?_); rintro e w4 ⟨rfl, hb4⟩; have hI4 := Lib.hid (hI3.out.callB hb4); clear hb4; have z0 := hlk.out w4 hI4.out; obtain ⟨o3, p3, K9⟩ := hI4.out.st.putW (nk : Int) ((wn : Int) + (sn : Int)); rw [hstep.out, ← e1.out] at K9; have HK9 := Lib.hid K9; clear K9) | fail)
          all_goals
            go_wp2
            go_roundw
            case rel => exact ⟨k + 1, by omega, by go_num, by rw [hlen.out, Int.natCast_add], HK9⟩
            case measure => (simp [intOf] <;> omega)
    · obtain rfl : ng = k := by omega
      have ex : gs.take ng = gs := by rw [← hng.out, List.take_length]
      rw [ex] at hA ⊢
      by_cases hz : (alL gs).length = 0
      · have g0 : ((((alL gs).length : Nat) : Int) == 0) = true := by simp [hz]
        have hR3 : Hid ((S, T, F) = (⟨#[]⟩, ⟨#[]⟩, 9)) := Lib.hid (by rw [← hR2.out, alpR, if_pos hz])
        clear hz
        have r0 : wr.cell? ⟨b6, 0, none⟩ = some (.string ⟨#[]⟩) := hA.out.k.cell 0
        have r1' : wr.cell? ⟨b6, 1, none⟩ = some (.string ⟨#[]⟩) := hA.out.k.cell 1
        have r2' := hA.out.k.frz 0
        have r3' := hA.out.k.frz 1
        generalize (((alL gs).length : Nat) : Int) = n0 at *
        go_wp2
        have hZ := Lib.hid ((hA.out.k.set 0 (.string ⟨#[]⟩)).set 1 (.string ⟨#[]⟩))
        have e0 : _ = some (Value.string ⟨#[]⟩) := hZ.out.cell 0
        have e1 : _ = some (Value.string ⟨#[]⟩) := hZ.out.cell 1
        (try simp only [Exit.inBlock, Exit.then])
        refine bodyPost_ret (v := .tuple #[.agg #[.string ⟨#[]⟩, .string ⟨#[]⟩], .int .i64 9]) (by simp [results, Tryz.results9, go_sem, e0, e1]) rfl ?_
        have h := hR3.out
        cases h
        exact ⟨rfl, Below_grown (Below_grown hA.out.bel (grown_setC _ _ _ _) hA.out.lo.1) (grown_setC _ _ _ _) hA.out.lo.1⟩
      have g0 : ((((alL gs).length : Nat) : Int) == 0) = false := by rw [beq_eq_false_iff_ne]; omega
      have hR3 : Hid ((if scatN l tr (alL gs) = 0 then ratR (((1 : Int) : Rat) / ((1 : Int) : Rat)) else ratR (((1 : Int) : Rat) / ((1 : Int) : Rat) + (seenN l tr (bigG gs) : Rat) / (e49 : Rat) * (((-(((alL gs).length : Int) - 1) : Int) : Rat) / ((scatN l tr (alL gs) : Int) : Rat)))) = (S, T, F)) := Lib.hid (by rw [← hR2.out, alpR, if_neg hz])
      have hvA : Hid (∀ c ∈ alL gs, (ix l c).isSome = true) := Lib.hid (fun c hc => by
        obtain ⟨g, hg, hc⟩ := List.mem_flatMap.1 hc
        exact hcd.out g (List.mem_filter.1 hg).1 c hc)
      have hsl := Nat.le_trans (scatN_le HO.out tr hvA.out) (Nat.mul_le_mul hal.out (Nat.mul_le_mul_right 256 hal.out))
      have hal4 := hal.out
      have hSc := Lib.hid (fun W (hx : AlS w φ2 bt a c n m1 m2 l b6 r1 r2 (coF (alL gs)) (wiF l tr (bigG gs)) W) => scatter_any hx.fz s3 hx.tr HO hx.ma hal.out hvA tr)
      generalize hN : (alL gs).length = N at *
      generalize hE : scatN l tr (alL gs) = E at *
      replace hN := Lib.hid hN
      replace hE := Lib.hid hE
      clear hz
      by_cases hE0 : E = 0
      · have g1 : ((E : Int) == 0) = true := by simp [hE0]
        have hR4 : Hid (ratR (((1 : Int) : Rat) / ((1 : Int) : Rat)) = (S, T, F)) := Lib.hid (by rw [← hR3.out, if_pos hE0])
        obtain ⟨rfl, -, -⟩ := ratR_smallC (num := 1) (den := 1) (by omega) (by omega) (by omega) hR4.out
        clear hE0 hR3 hE
        go_wp2_with (first
          | (go_at_call 27; (with_reducible refine (hSc.out _ hA.out).mono ?_); rintro e w4 ⟨rfl, hb4⟩; have hA4 := Lib.hid (hA.out.callB hb4); clear hb4)
          | (go_at_call 18; refine (cfraction_any (M := 999999999) (num := 1) (den := 1) (Lib.hid div_one) lenB_oneC (by omega) (by omega) (by omega) (by omega) (by omega) (by omega) (by omega) hA4.out.fz (HP.out.mono L3.out) hR4).mono ?_; rintro e wz ⟨rfl, hbz⟩; have HZ := Lib.hid (hA4.out.callB hbz); clear hbz; have r0 : wz.cell? ⟨b6, 0, none⟩ = some (.string ⟨#[]⟩) := HZ.out.k.cell 0; have r1' : wz.cell? ⟨b6, 1, none⟩ = some (.string ⟨#[]⟩) := HZ.out.k.cell 1; have r2' := HZ.out.k.frz 0; have r3' := HZ.out.k.frz 1))
        have hZ := Lib.hid ((HZ.out.k.set 0 (.string S)).set 1 (.string T))
        have e0 : _ = some (Value.string S) := hZ.out.cell 0
        have e1 : _ = some (Value.string T) := hZ.out.cell 1
        (try simp only [Exit.inBlock, Exit.then])
        refine bodyPost_ret (v := .tuple #[.agg #[.string S, .string T], .int .i64 0]) (by simp [results, Tryz.results9, go_sem, e0, e1]) rfl ?_
        exact ⟨rfl, Below_grown (Below_grown HZ.out.bel (grown_setC _ _ _ _) HZ.out.lo.1) (grown_setC _ _ _ _) HZ.out.lo.1⟩
      have g1 : ((E : Int) == 0) = false := by rw [beq_eq_false_iff_ne]; omega
      obtain ⟨S0, T0, hx0, hs0, ht0⟩ := fine_49 (a := obsN l tr (bigG gs) []) (Nat.zero_le _)
      have hQ0 : Hid (ratR (((0 : Int) : Rat) / ((1 : Int) : Rat)) = (S0, T0, 0)) := Lib.hid (by rw [obs_nil l tr (bigG gs)]; exact hx0)
      have hB0 : Hid (ratF S0 T0 = 0 ∧ ratX S0 T0 = (obsN l tr (bigG gs) [] : Rat) / (e49 : Rat) ∧ S0.size ≤ 201 ∧ T0.size ≤ 200) := Lib.hid ⟨(ratR_back hx0).1, (ratR_back hx0).2, hs0, ht0⟩
      have hR4 : Hid (ratR (((1 : Int) : Rat) / ((1 : Int) : Rat) + (seenN l tr (bigG gs) : Rat) / (e49 : Rat) * (((-((N : Int) - 1) : Int) : Rat) / ((E : Int) : Rat))) = (S, T, F)) := Lib.hid (by rw [← hR3.out, if_neg hE0])
      have hE1 := Lib.hid hE0
      clear hx0 hs0 ht0 hR3 hE0
      go_upto_region 27 with (first
        | (go_at_call 27; (with_reducible refine (hSc.out _ hA.out).mono ?_); rintro e w4 ⟨rfl, hb4⟩; have hA4 := Lib.hid (hA.out.callB hb4); clear hb4)
        | (go_at_call 18; (with_reducible refine (cfraction_any (M := 999999999) (num := 0) (den := 1) (Lib.hid div_one) lenB_oneC (by omega) (by omega) (by omega) (by omega) (by omega) (by omega) (by omega) hA4.out.fz (HP.out.mono L3.out) hQ0).mono ?_); rintro e w5 ⟨rfl, hb5⟩; have hA5 := Lib.hid (hA4.out.callB hb5); clear hb5))
      have hmw := Lib.hid ((hA5.out.callB ((Below.refl _ _).alloc (Nat.le_refl _) (.cells #[.string S0, .string T0] 32))).mw)
      have hst := Lib.hid (fun w' => AlR.start (w' := w') hA5.out S0 T0)
      go_wp2_with (at_range; refine wpList_range_F rfl _ rfl rfl hmw.out ?_; intro w7 hrg hb7 hs7)
      (try go_frame)
      rw [alloc_sz] at hrg hb7 ⊢
      have hL0 := Lib.hid (hst.out w7 hrg hb7)
      generalize w5.heap.size = bx at *
      generalize hri : bx + 1 = ri at *
      clear hri hst hmw hrg hb7 hs7 hA5 hA4 hA hSc
      go_loopw [9] (fun v9 wi => ∃ (Sm : List Int) (S1 T1 : ByteArray), v9 = .int .i64 0 ∧ Hid Sm.Nodup ∧ Hid (ratF S1 T1 = 0 ∧ ratX S1 T1 = (obsN l tr (bigG gs) Sm : Rat) / (e49 : Rat) ∧ S1.size ≤ 201 ∧ T1.size ≤ 200) ∧ Hid (AlR w φ2 bt a c n m1 m2 l b6 r1 r2 (coF (alL gs)) (wiF l tr (bigG gs)) bx S1 T1 ri Sm wi)) (fun _ wi => wi.rangeLeft r2 ri)
      case atStart => exact ⟨[], S0, T0, rfl, Lib.hid List.nodup_nil, hB0, hL0⟩
      case round =>
        clear hL0 hB0
        rename World => wi
        obtain ⟨Sm, S1, T1, rfl, hnd, hB, hL⟩ := hrel
        go_wp2_with (at_next; refine wpList_next_F rfl _ rfl rfl hL.out.rg ?_ ?_)
        · intro hdone
          have hobs : Hid (obsN l tr (bigG gs) Sm = seenN l tr (bigG gs)) := Lib.hid (obs_all hnd.out (wiF_has hdone))
          have hsle : seenN l tr (bigG gs) ≤ 256000000 * e49 := by rw [← hobs.out]; exact Nat.le_trans (obs_le hnd.out) (Nat.mul_le_mul_right _ htot.out)
          rw [hobs.out] at hB
          obtain ⟨q, hq⟩ : ∃ q : Int, Hid ((N : Int) - 1 = q) := ⟨_, Lib.hid rfl⟩
          have hN1 : 1 ≤ N := by
            have h := g0
            rw [beq_eq_false_iff_ne] at h
            omega
          have hq1 : 0 ≤ q ∧ q ≤ 20000 := by have := hq.out; omega
          have hEi : Hid ((E : Int) ≠ 0) := Lib.hid (by have := hE1.out; omega)
          have hE9 : Hid (E ≤ 1000000000000 ∧ (E : Int) ≤ 9223372036854775807) := Lib.hid (by omega)
          obtain ⟨S2, T2, hx2, hs2, ht2⟩ := ratR_fineQ (a := -q) (b := (E : Int)) hEi.out (Nat.lt_of_le_of_lt (show (-q).natAbs ≤ 20000 by omega) (by decide)) (Nat.lt_of_le_of_lt (show (E : Int).natAbs ≤ 1000000000000 by rw [Int.natAbs_natCast]; exact hE9.out.1) (by decide))
          obtain ⟨S3, T3, hx3, hs3, ht3⟩ := fine_prod (a := seenN l tr (bigG gs)) (n := N) (s := E) hsle hal4 hE9.out.1 hE1.out
          obtain ⟨Sa, Ta, hxa, hsa, hta⟩ := ratR_fineQ (a := 1) (b := 1) (by omega) (by decide) (by decide)
          rw [hq.out] at hx3 hR4
          have HP2 := Lib.hid (HP.out.mono L3.out)
          have hszP : Hid (S1.size ≤ 9223372036854775807 ∧ T1.size ≤ 9223372036854775807 ∧ S2.size ≤ 9223372036854775807 ∧ T2.size ≤ 9223372036854775807) := Lib.hid (by have := hB.out.2.2; omega)
          have hszS : Hid (Sa.size ≤ 9223372036854775807 ∧ Ta.size ≤ 9223372036854775807 ∧ S3.size ≤ 9223372036854775807 ∧ T3.size ≤ 9223372036854775807) := Lib.hid (by omega)
          have hB1 : Hid (ratF S1 T1 = 0 ∧ ratX S1 T1 = (seenN l tr (bigG gs) : Rat) / (e49 : Rat)) := Lib.hid ⟨hB.out.1, hB.out.2.1⟩
          have hB2 := Lib.hid (ratR_back hx2)
          have hB3 := Lib.hid (ratR_back hx3)
          have hBa := Lib.hid (ratR_back hxa)
          have hQ2 := Lib.hid hx2
          have hQ3 := Lib.hid hx3
          have hQa := Lib.hid hxa
          have hqd : Hid (-9223372036854775808 ≤ -q ∧ -q ≤ 9223372036854775807 ∧ (-q).natAbs ≤ mAl ∧ (E : Int).natAbs ≤ mAl ∧ -9223372036854775808 ≤ (E : Int)) := Lib.hid ⟨by omega, by omega, mAl_small (by omega), mAl_small (by rw [Int.natAbs_natCast]; have := hE9.out.1; omega), by omega⟩
          have hCF := Lib.hid (fun (o : Option Nat) (W : World) (h : Hid (AqS w φ2 b6 bx S1 T1 o W)) => cfraction_Q (M := mAl) (num := -q) (den := (E : Int)) mAl_div mAl_len hqd.out.1 hqd.out.2.1 hqd.out.2.2.2.2 hE9.out.2 hqd.out.2.2.1 hqd.out.2.2.2.1 hEi.out HP2 hQ2 h)
          have hPR := Lib.hid (fun (o : Option Nat) (W : World) (h : Hid (AqS w φ2 b6 bx S1 T1 o W)) => Product_Q hszP hB1 hB2 HP2 hQ3 h)
          have hqN : Hid (AqS w φ2 b6 bx S1 T1 none wi) := Lib.hid ⟨hL.out.st.bel, hL.out.st.fz, hL.out.st.k, hL.out.k, hL.out.st.lo.1, hL.out.ne.1, hL.out.st.fr.1, fun x e => by cases e⟩
          have hqD : Hid (AqS w φ2 b6 bx S1 T1 none wi.drew) := Lib.hid (hqN.out.callB (bdrewN (Below.refl _ wi) 1))
          have hw1 : IntKind.i64.wrap ((N : Int) - 1) = q := by rw [hq.out]; exact IntWalk.i64_in _ (by omega)
          have hw2 : IntKind.i64.wrap (-q) = -q := IntWalk.i64_in _ (by omega)
          clear hx2 hx3 hxa hs2 ht2 hs3 ht3 hsa hta hL hdone hnd hobs
          go_upto_region 33 with fail
          have y0 : wi.drew.cell? ⟨bx, 0, none⟩ = some (.string S1) := hqD.out.kx.cell 0
          have y1 : wi.drew.cell? ⟨bx, 1, none⟩ = some (.string T1) := hqD.out.kx.cell 1
          have z0 : wi.cell? ⟨bx, 0, none⟩ = some (.string S1) := hqN.out.kx.cell 0
          have z1 : wi.cell? ⟨bx, 1, none⟩ = some (.string T1) := hqN.out.kx.cell 1
          apply wp_region_cutV (fun (x : Nat) => [(109, .agg #[.string S1, .string T1]), (110, .int .i64 (N : Int)), (111, .int .i64 q), (112, .int .i64 (-q)), (113, .int .i64 (E : Int)), (114, .agg #[.string S2, .string T2]), (115, .tuple #[.agg #[.string S3, .string T3], .int .i64 0]), (108, .tuple #[.agg #[.string S3, .string T3], .int .i64 0]), (116, .agg #[.string S3, .string T3]), (117, .int .i64 0), (22, .pointer (some ⟨x, 0, none⟩)), (9, .int .i64 0)]) (fun x W => Hid (AqS w φ2 b6 x S3 T3 none W))
          case h1 =>
            intro KK hKK
            go_region_held3 (fun w' => w'.cell? ⟨bx, 0, none⟩ = some (.string S1) ∧ w'.cell? ⟨bx, 1, none⟩ = some (.string T1)) (first | with_reducible exact ⟨y0, y1⟩ | with_reducible exact ⟨by assumption, by assumption⟩ | exact ⟨keepAP (by with_reducible assumption), keepAP (by with_reducible assumption)⟩ | exact ⟨keep2 (by with_reducible assumption) (show _ ≠ bx by with_reducible assumption), keep2 (by with_reducible assumption) (show _ ≠ bx by with_reducible assumption)⟩ | fail) (first
              | (go_at_call 29; (with_reducible refine (hPR.out _ _ (by first | with_reducible assumption | with_reducible exact AqS.al (by with_reducible assumption))).mono ?_); rintro e wB ⟨rfl, hX2⟩; have q0 : wB.cell? ⟨bx, 0, none⟩ = some (.string S1) := hX2.out.kx.cell 0; have q1 : wB.cell? ⟨bx, 1, none⟩ = some (.string T1) := hX2.out.kx.cell 1; (try obtain ⟨v0, v1, v2, v3, v4⟩ := AqS.facts hX2))
              | (go_at_call 18; (with_reducible refine (hCF.out _ _ (by first | with_reducible exact hqD | with_reducible assumption | with_reducible exact AqS.al (by with_reducible assumption) | exact AqS.alD hqN)).mono ?_); rintro e wA ⟨rfl, hX1⟩; have q0 : wA.cell? ⟨bx, 0, none⟩ = some (.string S1) := hX1.out.kx.cell 0; have q1 : wA.cell? ⟨bx, 1, none⟩ = some (.string T1) := hX1.out.kx.cell 1; (try obtain ⟨v0, v1, v2, v3, v4⟩ := AqS.facts hX1))
              | fail)
            all_goals
              refine onlyN_mk ?_
              have hk := fun x W s => hKK.out x W s
              simp only [updA, List.foldl_cons, List.foldl_nil, List.setIfInBounds_toArray, List.set_cons_succ, List.set_cons_zero] at hk
              first
                | exact hk _ _ (AqS.put (by with_reducible assumption))
                | exact hk _ _ (AqS.putNew (by with_reducible assumption))
                | fail
          case h2 =>
            intro x9 W9 hF9
            simp only [updA, List.foldl_cons, List.foldl_nil, List.setIfInBounds_toArray, List.set_cons_succ, List.set_cons_zero]
            clear hqN hqD y0 y1 z0 z1 hCF hPR
            have hCF := Lib.hid (fun (o : Option Nat) (W : World) (h : Hid (AqS w φ2 b6 x9 S3 T3 o W)) => cfraction_Q (M := 999999999) (num := 1) (den := 1) (Lib.hid div_one) lenB_oneC (by omega) (by omega) (by omega) (by omega) (by omega) (by omega) (by omega) HP2 hQa h)
            have hSU := Lib.hid (fun (o : Option Nat) (W : World) (h : Hid (AqS w φ2 b6 x9 S3 T3 o W)) => Sum_Q hszS hBa hB3 HP2 hR4 h)
            go_upto_region 36 with fail
            have hqD : Hid (AqS w φ2 b6 x9 S3 T3 none W9.drew) := Lib.hid (hF9.out.callB (bdrewN (Below.refl _ W9) 1))
            have y0 : W9.drew.cell? ⟨x9, 0, none⟩ = some (.string S3) := hqD.out.kx.cell 0
            have y1 : W9.drew.cell? ⟨x9, 1, none⟩ = some (.string T3) := hqD.out.kx.cell 1
            go_region_law (first
              | (go_simp; go_at_call 28; (with_reducible refine (hSU.out _ _ hX1).mono ?_); rintro e wB ⟨rfl, hX2⟩; have r0 : wB.cell? ⟨b6, 0, none⟩ = some (.string ⟨#[]⟩) := hX2.out.k6.cell 0; have r1' : wB.cell? ⟨b6, 1, none⟩ = some (.string ⟨#[]⟩) := hX2.out.k6.cell 1; have r2' := hX2.out.k6.frz 0; have r3' := hX2.out.k6.frz 1)
              | (go_simp; go_at_call 18; (with_reducible refine (hCF.out _ _ hqD).mono ?_); rintro e wA ⟨rfl, hX1⟩; have q0 : wA.cell? ⟨x9, 0, none⟩ = some (.string S3) := hX1.out.kx.cell 0; have q1 : wA.cell? ⟨x9, 1, none⟩ = some (.string T3) := hX1.out.kx.cell 1)
              | fail)
            all_goals
              go_wp2
              have hZ := Lib.hid ((hX2.out.k6.set 0 (.string S)).set 1 (.string T))
              have e0 : _ = some (Value.string S) := hZ.out.cell 0
              have e1 : _ = some (Value.string T) := hZ.out.cell 1
              (try simp only [Exit.inBlock, Exit.then])
              refine bodyPost_ret (v := .tuple #[.agg #[.string S, .string T], .int .i64 F]) (by simp [results, Tryz.results9, go_sem, e0, e1]) rfl ?_
              exact ⟨rfl, Below_grown (Below_grown hX2.out.bel (grown_setC _ _ _ _) hX2.out.lo) (grown_setC _ _ _ _) hX2.out.lo⟩
        · intro m v w8 hf hS8 hR8 hg8 hsz8 hlt8 hen8
          obtain ⟨k2, k50, rfl⟩ := wiF_key h50.out hf
          have hLn := Lib.hid (hL.out.next hg8 hR8)
          have hlt' := Lib.hid hlt8
          have hnd2 : Hid ((m :: Sm).Nodup) := Lib.hid (List.nodup_cons.2 ⟨hS8, hnd.out⟩)
          have hwle := Nat.le_trans (wi_le (l := l) (tr := tr) (B := bigG gs) m) htot.out
          obtain ⟨S3, T3, hx3, hs3, ht3⟩ := fine_49 (a := obsN l tr (bigG gs) (m :: Sm)) (Nat.le_trans (obs_le hnd2.out) (Nat.mul_le_mul_right _ htot.out))
          obtain ⟨S2, T2, hx2, hs2, ht2⟩ := ratR_fineQ (a := (wiN l tr (bigG gs) m : Int)) (b := m - 1) (by omega) (by rw [Int.natAbs_natCast]; exact Nat.lt_of_le_of_lt hwle (by decide)) (Nat.lt_of_le_of_lt (show (m - 1).natAbs ≤ 49 by omega) (by decide))
          have hQ2 := Lib.hid hx2
          have hB2 := Lib.hid (ratR_back hx2)
          have hB3 : Hid (ratF S3 T3 = 0 ∧ ratX S3 T3 = (obsN l tr (bigG gs) (m :: Sm) : Rat) / (e49 : Rat) ∧ S3.size ≤ 201 ∧ T3.size ≤ 200) := Lib.hid ⟨(ratR_back hx3).1, (ratR_back hx3).2, hs3, ht3⟩
          have hQ3 : Hid (ratR ((obsN l tr (bigG gs) Sm : Rat) / (e49 : Rat) + ((wiN l tr (bigG gs) m : Int) : Rat) / ((m - 1 : Int) : Rat)) = (S3, T3, 0)) := Lib.hid (by rw [obs_step k2 k50]; exact hx3)
          have hB1 : Hid (ratF S1 T1 = 0 ∧ ratX S1 T1 = (obsN l tr (bigG gs) Sm : Rat) / (e49 : Rat)) := Lib.hid ⟨hB.out.1, hB.out.2.1⟩
          have hsz : Hid (S1.size ≤ 9223372036854775807 ∧ T1.size ≤ 9223372036854775807 ∧ S2.size ≤ 9223372036854775807 ∧ T2.size ≤ 9223372036854775807) := Lib.hid (by have := hB.out.2.2; omega)
          clear hx2 hx3 hs2 ht2 hs3 ht3 hf hS8 hR8 hg8 hlt8 hsz8 hL
          generalize wiN l tr (bigG gs) m = wv at *
          have hcl := Lib.hid (fun W (hx : AlR w φ2 bt a c n m1 m2 l b6 r1 r2 (coF (alL gs)) (wiF l tr (bigG gs)) bx S1 T1 ri (m :: Sm) W) => (⟨hx.k.cell 0, hx.k.cell 1, hx.k.frz 0, hx.k.frz 1⟩ : W.cell? ⟨bx, 0, none⟩ = some (.string S1) ∧ W.cell? ⟨bx, 1, none⟩ = some (.string T1) ∧ W.frozen? ⟨bx, 0, none⟩ = false ∧ W.frozen? ⟨bx, 1, none⟩ = false))
          go_upto_region 30 with (fail)
          have hLd : Hid (AlR w φ2 bt a c n m1 m2 l b6 r1 r2 (coF (alL gs)) (wiF l tr (bigG gs)) bx S1 T1 ri (m :: Sm) w8.drew) := Lib.hid (hLn.out.callB (bdrewN (Below.refl _ w8) 1))
          have hltd : Hid (w8.drew.rangeLeft r2 ri < wi.rangeLeft r2 ri) := Lib.hid hlt'.out
          have hwm : IntKind.i64.wrap (m - 1) = m - 1 := IntWalk.i64_in _ (by omega)
          obtain ⟨y0, y1, y2, y3⟩ := hcl.out w8 hLn.out
          obtain ⟨x0, x1, x2, x3⟩ := hcl.out w8.drew hLd.out
          go_region_law (first
            | (go_simp; go_at_call 28; (with_reducible refine (Sum_any mAl_div mAl_len mAl_2 hsz hB1 hB2 (Lib.hid rfl) (Lib.hid mAl_N) hL9.out.st.fz (HP.out.mono L3.out) hQ3).mono ?_); rintro e wA ⟨rfl, hbA⟩; have hLA := Lib.hid (hL9.out.callB hbA); have qA : Hid (wA.rangeLeft r2 ri < wi.rangeLeft r2 ri) := Lib.hid (by rw [hL9.out.leftB hbA]; exact q9.out); clear hbA; obtain ⟨u0, u1, u2, u3⟩ := hcl.out wA hLA.out)
            | (go_simp; go_at_call 18; (with_reducible refine (cfraction_any (M := 999999999) (num := (wv : Int)) (den := m - 1) (Lib.hid div_one) lenB_oneC (by omega) (by omega) (by omega) (by omega) (by omega) (by omega) (by omega) hLd.out.st.fz (HP.out.mono L3.out) hQ2).mono ?_); rintro e w9 ⟨rfl, hb9⟩; have hL9 := Lib.hid (hLd.out.callB hb9); have q9 : Hid (w9.rangeLeft r2 ri < wi.rangeLeft r2 ri) := Lib.hid (by rw [hLd.out.leftB hb9]; exact hltd.out); clear hb9; obtain ⟨z0, z1, z2, z3⟩ := hcl.out w9 hL9.out)
            | fail)
          all_goals
            have hLZ := Lib.hid (hLA.out.set (S1 := S3) (T1 := T3))
            have qZ : Hid (((wA.setCell ⟨bx, 0, none⟩ (.string S3)).setCell ⟨bx, 1, none⟩ (.string T3)).rangeLeft r2 ri < wi.rangeLeft r2 ri) := Lib.hid (by rw [hLA.out.leftS]; exact qA.out)
            clear y0 y1 y2 y3 x0 x1 x2 x3 z0 z1 z2 z3 u0 u1 u2 u3
            generalize (wA.setCell ⟨bx, 0, none⟩ (.string S3)).setCell ⟨bx, 1, none⟩ (.string T3) = wz at *
            go_wp2
            go_roundw
            case rel => exact ⟨m :: Sm, S3, T3, rfl, hnd2, hB3, hLZ⟩
            case measure => exact qZ.out
end Go.Proofs.YtngogjookldidaaGreatDoor
