/- The walk of joint for clusters in two stages, the reference's side. Conditions: the take fits the stratum's units; the two units are not the same. -/
import Derived.Test.YtnlhalnjbkpdnaaGreatDoorZL
namespace Go.Proofs.YtnlhalnjbkpdnaaGreatDoor
open Go.RowKit Go.Sort
set_option linter.unusedVariables false
set_option linter.unusedSimpArgs false
theorem Rindex_N {w0 W : World} {φ0 φ : Phi} {br : Nat} (h : Hid (RcN w0 φ0 br φ W)) {a : Option Addr} {c n : Nat} {l : List Int} (s : Hid (SlV φ a c l)) (hn : Hid (l.length = n)) {z v : Int} (hv : Hid (Fnd (fun i => l.getD i 0 = z) n v)) :
    Calls Tryz.prog 66 #[.slice a n c, .int .i64 z] W (fun e w' => e = .returned (.int .i64 v) ∧ Hid (RcN w0 φ0 br φ w')) :=
  (IndexI_f h.out.fz n a c l z s.out hn hv).mono fun e w' q => ⟨q.1, by rw [q.2]; exact h⟩
set_option maxRecDepth 100000 in
set_option maxHeartbeats 8000000 in
theorem Rjoint3_any {M : Nat} (hM : Hid (MOk M)) (hRD : Hid (RdivOk M)) {w : World} {s : ByteArray} {t1 t2 : Int} {a : Option Addr} {c n : Nat} {us : List Unt} {φ : Phi} (hφ : Fz φ w) (sl : SlV φ a c us) (hn : Hid (us.length = n)) (hl : n ≤ 5000) (hok : Hid (∀ u ∈ us, 1 ≤ u.2.2.2 ∧ u.2.2.2 ≤ 1000000)) (ht : Hid (TkOk 3 (s, t1, t2) us))
    {i k : Nat} (hi : i < n) (hkn : k < n) {u1 : Int} {u2 : ByteArray} {u3 u4 : Int} (hu : Hid (us.getD i unt0 = (u1, u2, u3, u4))) {v1 : Int} {v2 : ByteArray} {v3 v4 : Int} (hv : Hid (us.getD k unt0 = (v1, v2, v3, v4))) (hiu : Hid (iU us u1 = i)) (hiv : Hid (iU us v1 = k)) (hne : Hid (u1 ≠ v1)) {NB : Nat} (hNB : Hid (100000000000000 * 100000000000000 * 100000000000000 ≤ NB ∧ NB ≤ M)) :
    Calls Tryz.prog 46 #[.int .i64 3, .agg #[.string s, .int .i64 t1, .int .i64 t2], .slice a n c, .int .i64 (i : Int), .int .i64 (k : Int)] w (FrXP (jnR 3 (s, t1, t2) us (u1, u2, u3, u4) (v1, v2, v3, v4)) NB NB φ w) := by
  obtain ⟨φ1, hle1, hi1, hb1⟩ := (Inv.start hφ).frz (.cells #[.string s, .int .i64 t1, .int .i64 t2] 73)
  have hx0 := RsSt.start hi1 #[.bool false, .slice none 0 0, .slice none 0 0] 55
  have HX0 : Hid (RsSt w φ φ1 (w.heap.size + 1) #[.bool false, .slice none 0 0, .slice none 0 0] 55 ((w.alloc (.cells #[.string s, .int .i64 t1, .int .i64 t2] 73)).alloc (.cells #[.bool false, .slice none 0 0, .slice none 0 0] 55))) := Lib.hid (by simpa only [alloc_sz] using hx0)
  have SL := Lib.hid (sl.mono hle1)
  have HB1 := Lib.hid hb1
  clear hx0 hi1 hb1 hle1 hφ sl
  have hmu : (u1, u2, u3, u4) ∈ us := by rw [← hu.out, getD_elem0 _ _ _ (by rw [hn.out]; exact hi)]; exact List.getElem_mem _
  have hmv : (v1, v2, v3, v4) ∈ us := by rw [← hv.out, getD_elem0 _ _ _ (by rw [hn.out]; exact hkn)]; exact List.getElem_mem _
  have HMU := Lib.hid hmu
  have HMV := Lib.hid hmv
  have hn2 : 2 ≤ n := by
    rw [← hn.out]
    exact two_le hmu hmv (fun e => hne.out (congrArg (·.1) e))
  clear hmu hmv
  obtain ⟨bU, oU, rfl, f⟩ := SL.out.untD hn hi
  have F1 := Lib.hid (f i hi)
  have F2 := Lib.hid (f k hkn)
  rw [hu.out] at F1
  rw [hv.out] at F2
  clear f
  have hS9 := fun (W : World) (hf : Fz φ1 W) => (⟨(F1.out W hf).2, (F2.out W hf).2⟩ : (W.cell? ⟨bU, oU + i * 4, none⟩ = some (.int .i64 u1) ∧ W.cell? ⟨bU, oU + i * 4 + 1, none⟩ = some (.string u2) ∧ W.cell? ⟨bU, oU + i * 4 + 2, none⟩ = some (.int .i64 u3) ∧ W.cell? ⟨bU, oU + i * 4 + 3, none⟩ = some (.int .i64 u4)) ∧ (W.cell? ⟨bU, oU + k * 4, none⟩ = some (.int .i64 v1) ∧ W.cell? ⟨bU, oU + k * 4 + 1, none⟩ = some (.string v2) ∧ W.cell? ⟨bU, oU + k * 4 + 2, none⟩ = some (.int .i64 v3) ∧ W.cell? ⟨bU, oU + k * 4 + 3, none⟩ = some (.int .i64 v4)))
  go_enter Tryz.func46, Tryz.ntmps46
  go_upto_region 1 with (fail)
  generalize (w.alloc (.cells #[.string s, .int .i64 t1, .int .i64 t2] 73)).alloc (.cells #[.bool false, .slice none 0 0, .slice none 0 0] 55) = w1 at *
  have g3 : (0 : Int) ≤ (i : Int) := by omega
  have g4 : (i : Int) < n := by omega
  have g5 : (0 : Int) ≤ (k : Int) := by omega
  have g6 : (k : Int) < n := by omega
  have hF1 : Fz φ1 w1 := HX0.out.inv.fz
  have hN : ∀ g, w1.heap.size ≤ g → φ1 g = none := fun g hg => HX0.out.inv.fz.new_none hg
  apply wp_region_cutV (fun (j : Nat × Nat) => [(18, .slice (some ⟨bU, oU, none⟩) n c), (19, .int .i64 (i : Int)), (20, .pointer (some ⟨bU, oU + i * 4, none⟩)), (21, .agg #[.int .i64 u1, .string u2, .int .i64 u3, .int .i64 u4]), (22, .slice (some ⟨bU, oU, none⟩) n c), (23, .int .i64 (k : Int)), (24, .pointer (some ⟨bU, oU + k * 4, none⟩)), (25, .agg #[.int .i64 v1, .string v2, .int .i64 v3, .int .i64 v4]), (11, .pointer (some ⟨j.1, 0, none⟩)), (12, .pointer (some ⟨j.2, 0, none⟩))])
    (fun j W => Bx3 w φ φ1 (w.heap.size + 1) j.1 (.cells #[.int .i64 u1, .string u2, .int .i64 u3, .int .i64 u4] 64) j.2 (.cells #[.int .i64 v1, .string v2, .int .i64 v3, .int .i64 v4] 64) W)
  case h1 =>
    intro KK hKK
    go_region_held3 (fun W => (W.cell? ⟨bU, oU + i * 4, none⟩ = some (.int .i64 u1) ∧ W.cell? ⟨bU, oU + i * 4 + 1, none⟩ = some (.string u2) ∧ W.cell? ⟨bU, oU + i * 4 + 2, none⟩ = some (.int .i64 u3) ∧ W.cell? ⟨bU, oU + i * 4 + 3, none⟩ = some (.int .i64 u4)) ∧ (W.cell? ⟨bU, oU + k * 4, none⟩ = some (.int .i64 v1) ∧ W.cell? ⟨bU, oU + k * 4 + 1, none⟩ = some (.string v2) ∧ W.cell? ⟨bU, oU + k * 4 + 2, none⟩ = some (.int .i64 v3) ∧ W.cell? ⟨bU, oU + k * 4 + 3, none⟩ = some (.int .i64 v4))) (first | ((with_reducible refine hS9 _ ?_); repeat (first | with_reducible exact hF1 | (with_reducible refine Fz.drew1 ?_) | (with_reducible refine Fz.alloc ?_ _) | (with_reducible refine Fz.setN ?_ hN (by simp) _))) | fail) (first | fail)
    all_goals
      refine onlyN_mk ?_
      have hk := fun x y W s => hKK.out (x, y) W s
      simp only [updA, List.foldl_cons, List.foldl_nil, List.setIfInBounds_toArray, List.set_cons_succ, List.set_cons_zero] at hk
      first
        | exact hk _ _ _ (Bx3.one HX0.out _ _)
        | exact hk _ _ _ (Bx3.two HX0.out _ _)
  case h2 =>
  rintro ⟨bx, by_⟩ W9 hF9
  simp only [updA, List.foldl_cons, List.foldl_nil, List.setIfInBounds_toArray, List.set_cons_succ, List.set_cons_zero]
  obtain ⟨φ2, hX2, hle2, hbx, hby⟩ := hF9
  have HX2 := Lib.hid hX2
  have hfc := Lib.hid (fun (ψ : Phi) (W : World) (hl : φ2.le ψ) (hf : Fz ψ W) => (⟨⟨box_cell HB1.out (hle2.trans hl) hf 1, box_cell HB1.out (hle2.trans hl) hf 2⟩, (hf.blk (hl _ _ hbx)).cell 2, (hf.blk (hl _ _ hby)).cell 2⟩ : (W.cell? ⟨w.heap.size, 1, none⟩ = some (.int .i64 t1) ∧ W.cell? ⟨w.heap.size, 2, none⟩ = some (.int .i64 t2)) ∧ W.cell? ⟨bx, 2, none⟩ = some (.int .i64 u3) ∧ W.cell? ⟨by_, 2, none⟩ = some (.int .i64 v3)))
  have SL2 := Lib.hid (SL.out.mono hle2)
  clear hX2 hle2 hbx hby HX0 hN hF1 hS9 g3 g4 g5 g6
  obtain ⟨sz, hsz⟩ : ∃ z, Hid (szU us = z) := ⟨_, Lib.hid rfl⟩
  have hszb := szU_bd hok.out
  rw [hsz.out, hn.out] at hszb
  have hlo := ht.out.lo
  have hhi := ht.out.hi
  rw [hn.out] at hhi
  dsimp only at hlo hhi
  obtain ⟨⟨y1, y2⟩, y3, y4⟩ := hfc.out φ2 W9 φ2.le_refl HX2.out.inv.fz
  have HR2 : Hid (RcN w φ (w.heap.size + 1) φ2 W9) := HX2
  have N1 : Hid (100000000000000 ≤ NB) := Lib.hid (Nat.le_trans (by decide) hNB.out.1)
  have hmu := HMU.out
  have hmv := HMV.out
  have hz1 := szU_bd (l := clU us u3) (fun u hu => hok.out u (clU_mem hu))
  have hz2 := clU_len us u3
  have hz2' := clU_len us v3
  have hmu2 : (u1, u2, u3, u4) ∈ clU us u3 := List.mem_filter.2 ⟨hmu, by simp⟩
  have hmv2 : (v1, v2, v3, v4) ∈ clU us v3 := List.mem_filter.2 ⟨hmv, by simp⟩
  have hz3 : 0 < (clU us u3).length := List.length_pos_of_mem hmu2
  have hz3' : 0 < (clU us v3).length := List.length_pos_of_mem hmv2
  have hst := ht.out.st rfl
  have hst2 := hst.2 u3 (mem_cnsL.2 ⟨_, hmu, rfl⟩)
  have hst2' := hst.2 v3 (mem_cnsL.2 ⟨_, hmv, rfl⟩)
  have hdd : Hid (u3 = v3 → 2 ≤ (clU us u3).length) := Lib.hid (fun e => two_le hmu2 (show (v1, v2, v3, v4) ∈ clU us u3 by rw [e]; exact hmv2) (fun e => hne.out (congrArg (·.1) e)))
  have hS := sy_ok (by decide) ht.out hn.out (show 0 < n by omega) hl hok.out
  have hE0 := els_of (kind := 1) hn.out (show 0 < n by omega) hl hok.out
  obtain ⟨zs, hzs⟩ : ∃ zs, Hid (us.map (fun u => u.2.2.2) = zs) := ⟨_, Lib.hid rfl⟩
  have hzl : Hid (zs.length = n) := Lib.hid (by rw [← hzs.out, ← hn.out]; exact List.length_map _)
  obtain ⟨mx, hmx⟩ : ∃ m, Hid (mxL (elmL 1 us) = m) := ⟨_, Lib.hid rfl⟩
  have hE : Hid (ElS zs n mx sz) := Lib.hid (by
    have e : elmL 1 us = zs := hzs.out
    rw [hmx.out, hsz.out, e, hzl.out] at hE0
    exact hE0)
  obtain ⟨ns, hns⟩ : ∃ ns, Hid (cnsL us = ns) := ⟨_, Lib.hid rfl⟩
  obtain ⟨nc, hnc⟩ : ∃ m, Hid (ns.length = m) := ⟨_, Lib.hid rfl⟩
  obtain ⟨csz, hcs⟩ : ∃ ys, Hid (csL us = ys) := ⟨_, Lib.hid rfl⟩
  have hcsl : Hid (csz.length = nc) := Lib.hid (by rw [← hcs.out, ← hnc.out, ← hns.out]; exact List.length_map _)
  have HS : Hid (SyOk csz nc t1 sz) := Lib.hid (by
    have e : elmL 3 us = csz := hcs.out
    rw [e, hcsl.out, hsz.out] at hS
    exact hS)
  obtain ⟨vx, hvx⟩ := fnd_ex (fun i => ns.getD i 0 = u3) nc
  obtain ⟨vy, hvy⟩ := fnd_ex (fun i => ns.getD i 0 = v3) nc
  obtain ⟨a1, a2, a3⟩ := fnd_idx (f := fun x : Int => x) hnc.out ⟨u3, by rw [← hns.out]; exact mem_cnsL.2 ⟨_, hmu, rfl⟩, rfl⟩ hvx
  obtain ⟨b1, b2, b3⟩ := fnd_idx (f := fun x : Int => x) hnc.out ⟨v3, by rw [← hns.out]; exact mem_cnsL.2 ⟨_, hmv, rfl⟩, rfl⟩ hvy
  have ex : iC us u3 = ns.findIdx (fun x => decide (x = u3)) := by unfold iC; rw [hns.out]
  have ey : iC us v3 = ns.findIdx (fun x => decide (x = v3)) := by unfold iC; rw [hns.out]
  rw [← ex] at a1 a2 a3
  rw [← ey] at b1 b2 b3
  have hr6 := jn3 (s := s) (t1 := t1) (t2 := t2) (us := us) (u1 := u1) (u2 := u2) (u3 := u3) (u4 := u4) (v1 := v1) (v2 := v2) (v3 := v3) (v4 := v4)
  rw [hcs.out, hsz.out] at hr6
  have hcze : Hid (csz.getD (iC us u3) 0 = szU (clU us u3)) := Lib.hid (by
    rw [getD_elem0 _ _ _ (by rw [hcsl.out]; exact a2)]
    have := hcs.out
    subst this
    have h2 : (cnsL us)[iC us u3]'(by rw [hns.out, hnc.out]; exact a2) = u3 := by
      have := a3
      rw [← hns.out, getD_elem0 _ _ _ (by rw [hns.out, hnc.out]; exact a2)] at this
      exact this
    unfold csL
    rw [List.getElem_map, h2])
  rw [hn.out] at hz2 hz2'
  have hxyne : Hid (iC us u3 = iC us v3 → u3 = v3) := Lib.hid (fun e => by rw [e] at a3; exact a3.symm.trans b3)
  have hxyeq : Hid (u3 = v3 → iC us u3 = iC us v3) := Lib.hid (fun e => by rw [e])
  clear hmu hmv hmu2 hmv2 hS hE0 ex ey a3 b3
  generalize iC us u3 = x0 at *
  generalize iC us v3 = y0 at *
  subst a1 b1
  have HVX := Lib.hid hvx
  have HVY := Lib.hid hvy
  have hxn := a2
  have hyn := b2
  clear a2 b2 hvx hvy
  obtain ⟨cu, hcu⟩ : ∃ x, Hid (clU us u3 = x) := ⟨_, Lib.hid rfl⟩
  obtain ⟨cv, hcv⟩ : ∃ x, Hid (clU us v3 = x) := ⟨_, Lib.hid rfl⟩
  rw [hcu.out] at hz1 hz2 hz3 hst2 hdd hr6 hcze
  rw [hcv.out] at hz2' hz3' hst2' hr6
  obtain ⟨nv, hnv⟩ : ∃ x, Hid (cu.length = x) := ⟨_, Lib.hid rfl⟩
  obtain ⟨nw, hnw⟩ : ∃ x, Hid (cv.length = x) := ⟨_, Lib.hid rfl⟩
  obtain ⟨cz, hcz⟩ : ∃ x, Hid (szU cu = x) := ⟨_, Lib.hid rfl⟩
  rw [hnv.out] at hz1 hz2 hz3 hst2 hdd
  rw [hcz.out] at hz1 hcze
  rw [hnw.out] at hz2' hz3' hst2'
  rw [hnv.out, hnw.out, hcz.out] at hr6
  dsimp only at hst hst2 hst2'
  have hst0 := hst.1
  have HR6 := Lib.hid hr6
  have hl5 : n ≤ 5000 := hl
  have hnc5 : nc ≤ 5000 := HS.out.hi
  have hmu3 : 0 ≤ t1 * cz ∧ t1 * cz ≤ 25000000000000 := ⟨Int.mul_nonneg hlo (by omega), Int.le_trans (Int.mul_le_mul (show t1 ≤ 5000 by omega) (show cz ≤ 5000000000 by omega) (by omega) (by decide)) (by decide)⟩
  have hw1 : IntKind.i64.wrap (t1 * cz) = t1 * cz := IntWalk.i64_in _ (by omega)
  have hMb : Hid (100000000000000 * 100000000000000 * 100000000000000 ≤ M) := Lib.hid (Nat.le_trans hNB.out.1 hNB.out.2)
  have hM28 : Hid (100000000000000 * 100000000000000 ≤ M ∧ 100000000000000 * 100000000000000 ≤ M ∧ 100000000000000 ≤ M ∧ 100000000000000 ≤ M) := Lib.hid ⟨Nat.le_trans (by decide) hMb.out, Nat.le_trans (by decide) hMb.out, Nat.le_trans (by decide) hMb.out, Nat.le_trans (by decide) hMb.out⟩
  have hN28 : Hid (100000000000000 * 100000000000000 ≤ 100000000000000 * 100000000000000 ∧ 100000000000000 * 100000000000000 ≤ 100000000000000 * 100000000000000) := Lib.hid ⟨Nat.le_refl _, Nat.le_refl _⟩
  have hM42 : Hid (100000000000000 * 100000000000000 * 100000000000000 ≤ M ∧ 100000000000000 * 100000000000000 * 100000000000000 ≤ M ∧ 100000000000000 * 100000000000000 ≤ M ∧ 100000000000000 ≤ M) := Lib.hid ⟨hMb.out, hMb.out, Nat.le_trans (by decide) hMb.out, Nat.le_trans (by decide) hMb.out⟩
  have hN42 : Hid (100000000000000 * 100000000000000 * 100000000000000 ≤ 100000000000000 * 100000000000000 * 100000000000000 ∧ 100000000000000 * 100000000000000 * 100000000000000 ≤ 100000000000000 * 100000000000000 * 100000000000000) := Lib.hid ⟨Nat.le_refl _, Nat.le_refl _⟩
  have g3 : (0 : Int) ≤ (x0 : Int) := by omega
  have g4 : (x0 : Int) < nc := by omega
  clear hr6 hst y1 y2
  go_upto_region 8 with (go_at_call 100; (with_reducible refine (Rclusters_any HX2.out.inv.fz SL2.out hn hl).mono ?_); rintro e w7 ⟨a7, c7, φ7, rfl, hi7, s7⟩; rw [hns.out] at s7 ⊢; rw [hnc.out]; have HX7 := Lib.hid (HX2.out.call hi7); have S7 := Lib.hid s7; have L27 := Lib.hid hi7.le; clear hi7 s7 y3 y4)
  have SL7 := Lib.hid (SL2.out.mono L27.out)
  have HR7 : Hid (RcN w φ (w.heap.size + 1) φ7 w7) := HX7
  have HRd : Hid (RcN w φ (w.heap.size + 1) φ7 w7.drew) := Lib.hid (HX7.out.drewN 1)
  have hS9 := fun (W : World) (hf : Fz φ7 W) => (hfc.out φ7 W L27.out hf).2
  apply wp_region_cutV (fun (_ : PUnit) => [(58, .slice a7 nc c7), (59, .pointer (some ⟨bx, 2, none⟩)), (60, .int .i64 u3), (61, .int .i64 (x0 : Int)), (62, .slice a7 nc c7), (63, .pointer (some ⟨by_, 2, none⟩)), (64, .int .i64 v3), (65, .int .i64 (y0 : Int)), (14, .int .i64 (x0 : Int)), (15, .int .i64 (y0 : Int))])
    (fun _ W => Hid (RcN w φ (w.heap.size + 1) φ7 W))
  case h1 =>
    intro KK hKK
    go_region_held3 (fun W => W.cell? ⟨bx, 2, none⟩ = some (.int .i64 u3) ∧ W.cell? ⟨by_, 2, none⟩ = some (.int .i64 v3)) (first | with_reducible exact hS9 _ HRd.out.fz | with_reducible exact hS9 _ (by with_reducible assumption) | fail) (first
      | (go_at_call 66; (first
          | ((with_reducible refine (Rindex_N (by with_reducible assumption) S7 hnc HVX).mono ?_); rintro e wB ⟨rfl, HB⟩; have FB : Fz φ7 wB := HB.out.fz)
          | ((with_reducible refine (Rindex_N (by with_reducible assumption) S7 hnc HVY).mono ?_); rintro e wB ⟨rfl, HB⟩; have FB : Fz φ7 wB := HB.out.fz)))
      | fail)
    all_goals
      refine onlyN_mk ?_
      have hk := fun W s => hKK.out PUnit.unit W s
      simp only [updA, List.foldl_cons, List.foldl_nil, List.setIfInBounds_toArray, List.set_cons_succ, List.set_cons_zero] at hk
      exact hk _ HB
  case h2 =>
  rintro _ W8 HR8
  simp only [updA, List.foldl_cons, List.foldl_nil, List.setIfInBounds_toArray, List.set_cons_succ, List.set_cons_zero]
  have HX8 : Hid (RsSt w φ φ7 (w.heap.size + 1) #[.bool false, .slice none 0 0, .slice none 0 0] 55 W8) := HR8
  clear HX7 HR7 HRd hS9
  have HRd : Hid (RcN w φ (w.heap.size + 1) φ7 W8.drew) := Lib.hid (HX8.out.drewN 1)
  have hS9 := fun (W : World) (hf : Fz φ7 W) => (hfc.out φ7 W L27.out hf).2
  go_upto_region 9 with (fail)
  apply wp_region_cutV (fun (j : (Option Addr × Nat) × (Option Addr × Nat)) => [(66, .slice (some ⟨bU, oU, none⟩) n c), (67, .pointer (some ⟨bx, 2, none⟩)), (68, .int .i64 u3), (69, .slice j.1.1 nv j.1.2), (70, .int .i64 (nv : Int)), (71, .slice (some ⟨bU, oU, none⟩) n c), (72, .pointer (some ⟨by_, 2, none⟩)), (73, .int .i64 v3), (74, .slice j.2.1 nw j.2.2), (75, .int .i64 (nw : Int)), (16, .int .i64 (nv : Int)), (17, .int .i64 (nw : Int))])
    (fun _ W => Hid (RcN w φ (w.heap.size + 1) φ7 W))
  case h1 =>
    intro KK hKK
    go_region_held3 (fun W => W.cell? ⟨bx, 2, none⟩ = some (.int .i64 u3) ∧ W.cell? ⟨by_, 2, none⟩ = some (.int .i64 v3)) (first | with_reducible exact hS9 _ HRd.out.fz | with_reducible exact hS9 _ (by with_reducible assumption) | fail) (first
      | (go_at_call 93; (first
          | ((with_reducible refine (Rcluster_N (by with_reducible assumption) SL7 hn hl hcu hnv).mono ?_); rintro e wB ⟨aB, cB, rfl, HB⟩; have FB : Fz φ7 wB := HB.out.fz)
          | ((with_reducible refine (Rcluster_N (by with_reducible assumption) SL7 hn hl hcv hnw).mono ?_); rintro e wC ⟨aC, cC, rfl, HC⟩; have FB : Fz φ7 wC := HC.out.fz)))
      | fail)
    all_goals
      refine onlyN_mk ?_
      have hk := fun a b c d W s => hKK.out ((a, b), (c, d)) W s
      simp only [updA, List.foldl_cons, List.foldl_nil, List.setIfInBounds_toArray, List.set_cons_succ, List.set_cons_zero] at hk
      first
        | exact hk _ _ _ _ _ HC
        | exact hk _ _ _ _ _ HB
  case h2 =>
  rintro ⟨⟨aB, cB⟩, aC, cC⟩ W10 HR10
  simp only [updA, List.foldl_cons, List.foldl_nil, List.setIfInBounds_toArray, List.set_cons_succ, List.set_cons_zero]
  have HX10 : Hid (RsSt w φ φ7 (w.heap.size + 1) #[.bool false, .slice none 0 0, .slice none 0 0] 55 W10) := HR10
  clear HR8 HRd hS9 HX8 HR10
  by_cases hc : u3 = v3
  · have hxy := hxyeq.out hc
    have hnv2 := hdd.out hc
    have hr7 := HR6.out
    rw [if_pos hc] at hr7
    have hx := Lib.hid hr7
    have p1 : 0 ≤ t2 * (t2 - 1) ∧ t2 * (t2 - 1) ≤ 25000000 := ⟨Int.mul_nonneg (by omega) (by omega), Int.le_trans (Int.mul_le_mul (show t2 ≤ 5000 by omega) (show t2 - 1 ≤ 5000 by omega) (by omega) (by decide)) (by decide)⟩
    have p2 : 0 < (nv : Int) * ((nv : Int) - 1) ∧ (nv : Int) * ((nv : Int) - 1) ≤ 25000000 := ⟨Int.mul_pos (by omega) (by omega), Int.le_trans (Int.mul_le_mul (show (nv : Int) ≤ 5000 by omega) (show (nv : Int) - 1 ≤ 5000 by omega) (by omega) (by decide)) (by decide)⟩
    have hb1 := Lib.hid (show 0 ≤ t1 * cz ∧ t1 * cz ≤ 100000000000000 ∧ 0 < sz ∧ sz ≤ 100000000000000 by omega)
    have hb2 := Lib.hid (show 0 ≤ t2 * (t2 - 1) ∧ t2 * (t2 - 1) ≤ 100000000000000 ∧ 0 < (nv : Int) * ((nv : Int) - 1) ∧ (nv : Int) * ((nv : Int) - 1) ≤ 100000000000000 by omega)
    have w1' : IntKind.i64.wrap (t2 - 1) = t2 - 1 := IntWalk.i64_in _ (by omega)
    have w2' : IntKind.i64.wrap ((nv : Int) - 1) = (nv : Int) - 1 := IntWalk.i64_in _ (by omega)
    have w3' : IntKind.i64.wrap (t2 * (t2 - 1)) = t2 * (t2 - 1) := IntWalk.i64_in _ (by omega)
    have w4' : IntKind.i64.wrap ((nv : Int) * ((nv : Int) - 1)) = (nv : Int) * ((nv : Int) - 1) := IntWalk.i64_in _ (by omega)
    have N9 : Hid (100000000000000 * 100000000000000 ≤ NB) := Lib.hid (Nat.le_trans (by decide) hNB.out.1)
    subst hxy
    have hxyb : ((x0 : Int) == (x0 : Int)) = true := by simp
    clear hr7 hc p1 p2 hnv2 hmu3 hz1 hz2 hz2' hz3 hz3' hst2 hst2' hst0 hszb hlo hhi
    go_upto_region 11 with (fail)
    --R11
    apply wp_region_cutV (fun (vals : Nat → Value) => [(79, vals 0), (80, vals 1), (81, vals 2), (82, vals 3), (83, vals 4), (84, vals 5), (85, vals 6), (86, vals 7), (87, vals 8), (88, vals 9), (89, vals 10), (90, vals 11), (91, vals 12), (92, vals 13), (93, vals 14), (94, vals 15), (95, vals 16), (96, vals 17), (97, vals 18), (98, vals 19), (99, vals 20), (100, vals 21), (101, vals 22), (102, vals 23)])
      (fun _ W => ∃ g p1 k1 c1 p2 k2 c2 ψ, RsSt w φ ψ (w.heap.size + 1) #[.bool g, .slice p1 k1 c1, .slice p2 k2 c2] 55 W ∧ FrX ψ (.agg #[.bool g, .slice p1 k1 c1, .slice p2 k2 c2]) (((t1 * cz : Int) : Rat) / ((sz : Int) : Rat) * (((t2 * (t2 - 1) : Int) : Rat) / ((((nv : Int) * ((nv : Int) - 1) : Int)) : Rat))) (100000000000000 * 100000000000000) (100000000000000 * 100000000000000))
    case h1 =>
      intro KK hKK
      refine wp_free (σ := Sg) (le := sgLe) (R := SgR w φ (w.heap.size + 1)) (V := fun (jj : Nat) (x : Sg) (v : Value) => match jj with
        | 0 => v = Value.pointer (some ⟨w.heap.size, 1, none⟩)
        | 1 => v = Value.int .i64 t1
        | 2 => v = Value.slice (some ⟨bU, oU, none⟩) n c
        | 3 => ∃ a c, v = Value.slice a nc c ∧ SlV x.1 a c csz
        | 4 => v = Value.int .i64 (x0 : Int)
        | 5 => ∃ b o, v = Value.pointer (some ⟨b, o, none⟩) ∧ ∀ W, Fz x.1 W → W.cell? ⟨b, o, none⟩ = some (Value.int .i64 cz)
        | 6 => v = Value.int .i64 cz
        | 7 => v = Value.int .i64 (t1 * cz)
        | 8 => v = Value.slice (some ⟨bU, oU, none⟩) n c
        | 9 => ∃ a c, v = Value.slice a n c ∧ SlV x.1 a c zs
        | 10 => v = Value.int .i64 sz
        | 11 => ∃ g p1 k1 c1 p2 k2 c2, v = Value.agg #[.bool g, .slice p1 k1 c1, .slice p2 k2 c2] ∧ FrX x.1 (.agg #[.bool g, .slice p1 k1 c1, .slice p2 k2 c2]) (((t1 * cz : Int) : Rat) / ((sz : Int) : Rat)) (100000000000000) (100000000000000)
        | 12 => v = Value.pointer (some ⟨w.heap.size, 2, none⟩)
        | 13 => v = Value.int .i64 t2
        | 14 => v = Value.pointer (some ⟨w.heap.size, 2, none⟩)
        | 15 => v = Value.int .i64 t2
        | 16 => v = Value.int .i64 (t2 - 1)
        | 17 => v = Value.int .i64 (t2 * (t2 - 1))
        | 18 => v = Value.int .i64 (nv : Int)
        | 19 => v = Value.int .i64 (nv : Int)
        | 20 => v = Value.int .i64 ((nv : Int) - 1)
        | 21 => v = Value.int .i64 ((nv : Int) * ((nv : Int) - 1))
        | 22 => ∃ g p1 k1 c1 p2 k2 c2, v = Value.agg #[.bool g, .slice p1 k1 c1, .slice p2 k2 c2] ∧ FrX x.1 (.agg #[.bool g, .slice p1 k1 c1, .slice p2 k2 c2]) (((t2 * (t2 - 1) : Int) : Rat) / ((((nv : Int) * ((nv : Int) - 1) : Int)) : Rat)) (100000000000000) (100000000000000)
        | 23 => ∃ g p1 k1 c1 p2 k2 c2, v = Value.agg #[.bool g, .slice p1 k1 c1, .slice p2 k2 c2] ∧ FrX x.1 (.agg #[.bool g, .slice p1 k1 c1, .slice p2 k2 c2]) (((t1 * cz : Int) : Rat) / ((sz : Int) : Rat) * (((t2 * (t2 - 1) : Int) : Rat) / ((((nv : Int) * ((nv : Int) - 1) : Int)) : Rat))) (100000000000000 * 100000000000000) (100000000000000 * 100000000000000)
        | 24 => ∃ g p1 k1 c1 p2 k2 c2, x.2 = some (Value.bool g, Value.slice p1 k1 c1, Value.slice p2 k2 c2) ∧ FrX x.1 (.agg #[.bool g, .slice p1 k1 c1, .slice p2 k2 c2]) (((t1 * cz : Int) : Rat) / ((sz : Int) : Rat) * (((t2 * (t2 - 1) : Int) : Rat) / ((((nv : Int) * ((nv : Int) - 1) : Int)) : Rat))) (100000000000000 * 100000000000000) (100000000000000 * 100000000000000)
        | _ => True) (B := fun jj x => jj = 24 → x.2 = none) (ψ0 := (φ7, none)) (by kernel_rfl) sgLe_refl sgLe_trans ?vm (by kernel_rfl) (show RsSt _ _ _ _ _ _ _ from HX10.out.drewN 1) (fun _ _ => rfl) (all_of ⟨?s0, ?s1, ?s2, ?s3, ?s4, ?s5, ?s6, ?s7, ?s8, ?s9, ?s10, ?s11, ?s12, ?s13, ?s14, ?s15, ?s16, ?s17, ?s18, ?s19, ?s20, ?s21, ?s22, ?s23, ?s24, trivial⟩) ?fin
      case vm =>
        intro jj x y v hxy h
        match jj, h with
        | 0, h => exact h
        | 1, h => exact h
        | 2, h => exact h
        | 3, h => obtain ⟨a, c, e, q⟩ := h; exact ⟨a, c, e, q.mono hxy.1⟩
        | 4, h => exact h
        | 5, h => obtain ⟨b, o, e, q⟩ := h; exact ⟨b, o, e, fun W hf => q W (hf.sub hxy.1)⟩
        | 6, h => exact h
        | 7, h => exact h
        | 8, h => exact h
        | 9, h => obtain ⟨a, c, e, q⟩ := h; exact ⟨a, c, e, q.mono hxy.1⟩
        | 10, h => exact h
        | 11, h => obtain ⟨g, p1, k1, c1, p2, k2, c2, e, q⟩ := h; exact ⟨g, p1, k1, c1, p2, k2, c2, e, q.mono hxy.1⟩
        | 12, h => exact h
        | 13, h => exact h
        | 14, h => exact h
        | 15, h => exact h
        | 16, h => exact h
        | 17, h => exact h
        | 18, h => exact h
        | 19, h => exact h
        | 20, h => exact h
        | 21, h => exact h
        | 22, h => obtain ⟨g, p1, k1, c1, p2, k2, c2, e, q⟩ := h; exact ⟨g, p1, k1, c1, p2, k2, c2, e, q.mono hxy.1⟩
        | 23, h => obtain ⟨g, p1, k1, c1, p2, k2, c2, e, q⟩ := h; exact ⟨g, p1, k1, c1, p2, k2, c2, e, q.mono hxy.1⟩
        | 24, h =>
          obtain ⟨g, p1, k1, c1, p2, k2, c2, e, q⟩ := h
          refine ⟨g, p1, k1, c1, p2, k2, c2, ?_, q.mono hxy.1⟩
          rcases hxy.2 with h | h
          · rw [h] at e; cases e
          · rw [h, e]
        | _ + 25, h => trivial
      case fin =>
        intro x W vals hl hR hv
        obtain ⟨g, p1, k1, c1, p2, k2, c2, e, q⟩ := hv 24 (by decide)
        have hk := hKK.out vals W ⟨g, p1, k1, c1, p2, k2, c2, x.1, by unfold SgR at hR; rw [e] at hR; exact hR, q⟩
        exact hk
      case s0 =>
        refine ⟨[], by kernel_rfl, ?_⟩
        intro x W vals hl hR hB hv K' hK
        have hl1 : φ7.le x.1 := hl.1
        simp only [List.map_cons, List.map_nil] at hK ⊢
        simp only [updF, List.foldl_cons, List.foldl_nil, List.setIfInBounds_toArray, List.set_cons_succ, List.set_cons_zero]
        go_simp
        exact hK.out _ _ _ x (sgLe_refl x) hR (fun _ _ h => h) rfl rfl
      case s1 =>
        refine ⟨[(79, 0)], by kernel_rfl, ?_⟩
        intro x W vals hl hR hB hv K' hK
        have hl1 : φ7.le x.1 := hl.1
        have h0 : vals 0 = Value.pointer (some ⟨w.heap.size, 1, none⟩) := hv (79, 0) (by simp)
        simp only [List.map_cons, List.map_nil] at hK ⊢
        generalize vals 0 = z0 at *
        subst h0
        simp only [updF, List.foldl_cons, List.foldl_nil, List.setIfInBounds_toArray, List.set_cons_succ, List.set_cons_zero]
        obtain ⟨⟨m1, m2⟩, _⟩ := hfc.out x.1 W (L27.out.trans hl1) hR.fz
        go_simp
        exact hK.out _ _ _ x (sgLe_refl x) hR (fun _ _ h => h) rfl rfl
      case s2 =>
        refine ⟨[], by kernel_rfl, ?_⟩
        intro x W vals hl hR hB hv K' hK
        have hl1 : φ7.le x.1 := hl.1
        simp only [List.map_cons, List.map_nil] at hK ⊢
        simp only [updF, List.foldl_cons, List.foldl_nil, List.setIfInBounds_toArray, List.set_cons_succ, List.set_cons_zero]
        go_simp
        exact hK.out _ _ _ x (sgLe_refl x) hR (fun _ _ h => h) rfl rfl
      case s3 =>
        refine ⟨[(81, 2)], by kernel_rfl, ?_⟩
        intro x W vals hl hR hB hv K' hK
        have hl1 : φ7.le x.1 := hl.1
        have h2 : vals 2 = Value.slice (some ⟨bU, oU, none⟩) n c := hv (81, 2) (by simp)
        simp only [List.map_cons, List.map_nil] at hK ⊢
        generalize vals 2 = z2 at *
        subst h2
        simp only [updF, List.foldl_cons, List.foldl_nil, List.setIfInBounds_toArray, List.set_cons_succ, List.set_cons_zero]
        go_simp
        go_at_call 98
        (with_reducible refine (RsizesOf_any hR.fz (SL7.out.mono hl1) hn hl5 hok).mono ?_)
        rintro e w' ⟨a4, c4, ψ', rfl, hi4, s4⟩
        rw [hcs.out] at s4 ⊢
        rw [hcsl.out]
        obtain ⟨r4, l4⟩ := SgR.call hR hi4
        exact hK.out _ _ _ (ψ', x.2) l4 r4 (fun _ _ h => h) ⟨a4, c4, rfl, s4⟩ rfl
      case s4 =>
        refine ⟨[], by kernel_rfl, ?_⟩
        intro x W vals hl hR hB hv K' hK
        have hl1 : φ7.le x.1 := hl.1
        simp only [List.map_cons, List.map_nil] at hK ⊢
        simp only [updF, List.foldl_cons, List.foldl_nil, List.setIfInBounds_toArray, List.set_cons_succ, List.set_cons_zero]
        go_simp
        exact hK.out _ _ _ x (sgLe_refl x) hR (fun _ _ h => h) rfl rfl
      case s5 =>
        refine ⟨[(82, 3), (83, 4)], by kernel_rfl, ?_⟩
        intro x W vals hl hR hB hv K' hK
        have hl1 : φ7.le x.1 := hl.1
        have h3 : ∃ a c, vals 3 = Value.slice a nc c ∧ SlV x.1 a c csz := hv (82, 3) (by simp)
        have h4 : vals 4 = Value.int .i64 (x0 : Int) := hv (83, 4) (by simp)
        simp only [List.map_cons, List.map_nil] at hK ⊢
        generalize vals 3 = z3 at *
        obtain ⟨a3, c3, rfl, S3⟩ := h3
        generalize vals 4 = z4 at *
        subst h4
        simp only [updF, List.foldl_cons, List.foldl_nil, List.setIfInBounds_toArray, List.set_cons_succ, List.set_cons_zero]
        obtain ⟨b9, o9, rfl, f9⟩ := S3.intsD hcsl hxn
        go_simp
        exact hK.out _ _ _ x (sgLe_refl x) hR (fun _ _ h => h) ⟨b9, _, rfl, fun W hf => by have := (f9 x0 hxn W hf).2; rw [hcze.out] at this; exact this⟩ rfl
      case s6 =>
        refine ⟨[(84, 5)], by kernel_rfl, ?_⟩
        intro x W vals hl hR hB hv K' hK
        have hl1 : φ7.le x.1 := hl.1
        have h5 : ∃ b o, vals 5 = Value.pointer (some ⟨b, o, none⟩) ∧ ∀ W, Fz x.1 W → W.cell? ⟨b, o, none⟩ = some (Value.int .i64 cz) := hv (84, 5) (by simp)
        simp only [List.map_cons, List.map_nil] at hK ⊢
        generalize vals 5 = z5 at *
        obtain ⟨b5, o5, rfl, P5⟩ := h5
        simp only [updF, List.foldl_cons, List.foldl_nil, List.setIfInBounds_toArray, List.set_cons_succ, List.set_cons_zero]
        have m0 := P5 W hR.fz
        go_simp
        exact hK.out _ _ _ x (sgLe_refl x) hR (fun _ _ h => h) rfl rfl
      case s7 =>
        refine ⟨[(80, 1), (85, 6)], by kernel_rfl, ?_⟩
        intro x W vals hl hR hB hv K' hK
        have hl1 : φ7.le x.1 := hl.1
        have h1 : vals 1 = Value.int .i64 t1 := hv (80, 1) (by simp)
        have h6 : vals 6 = Value.int .i64 cz := hv (85, 6) (by simp)
        simp only [List.map_cons, List.map_nil] at hK ⊢
        generalize vals 1 = z1 at *
        subst h1
        generalize vals 6 = z6 at *
        subst h6
        simp only [updF, List.foldl_cons, List.foldl_nil, List.setIfInBounds_toArray, List.set_cons_succ, List.set_cons_zero]
        go_simp
        exact hK.out _ _ _ x (sgLe_refl x) hR (fun _ _ h => h) rfl rfl
      case s8 =>
        refine ⟨[], by kernel_rfl, ?_⟩
        intro x W vals hl hR hB hv K' hK
        have hl1 : φ7.le x.1 := hl.1
        simp only [List.map_cons, List.map_nil] at hK ⊢
        simp only [updF, List.foldl_cons, List.foldl_nil, List.setIfInBounds_toArray, List.set_cons_succ, List.set_cons_zero]
        go_simp
        exact hK.out _ _ _ x (sgLe_refl x) hR (fun _ _ h => h) rfl rfl
      case s9 =>
        refine ⟨[(87, 8)], by kernel_rfl, ?_⟩
        intro x W vals hl hR hB hv K' hK
        have hl1 : φ7.le x.1 := hl.1
        have h8 : vals 8 = Value.slice (some ⟨bU, oU, none⟩) n c := hv (87, 8) (by simp)
        simp only [List.map_cons, List.map_nil] at hK ⊢
        generalize vals 8 = z8 at *
        subst h8
        simp only [updF, List.foldl_cons, List.foldl_nil, List.setIfInBounds_toArray, List.set_cons_succ, List.set_cons_zero]
        go_simp
        go_at_call 91
        (with_reducible refine (Rsizes_any hR.fz (SL7.out.mono hl1) hn hl5).mono ?_)
        rintro e w' ⟨a4, c4, ψ', rfl, hi4, s4⟩
        rw [hzs.out] at s4 ⊢
        rw [hzl.out]
        obtain ⟨r4, l4⟩ := SgR.call hR hi4
        exact hK.out _ _ _ (ψ', x.2) l4 r4 (fun _ _ h => h) ⟨a4, c4, rfl, s4⟩ rfl
      case s10 =>
        refine ⟨[(88, 9)], by kernel_rfl, ?_⟩
        intro x W vals hl hR hB hv K' hK
        have hl1 : φ7.le x.1 := hl.1
        have h9 : ∃ a c, vals 9 = Value.slice a n c ∧ SlV x.1 a c zs := hv (88, 9) (by simp)
        simp only [List.map_cons, List.map_nil] at hK ⊢
        generalize vals 9 = z9 at *
        obtain ⟨a9, c9, rfl, S9⟩ := h9
        simp only [updF, List.foldl_cons, List.foldl_nil, List.setIfInBounds_toArray, List.set_cons_succ, List.set_cons_zero]
        go_simp
        go_at_call 90
        (with_reducible refine (total_q hR.fz S9 hE).mono ?_)
        rintro e w' ⟨rfl, hw'⟩
        exact hK.out _ _ _ x (sgLe_refl x) (by rw [hw']; exact hR) (fun _ _ h => h) rfl rfl
      case s11 =>
        refine ⟨[(86, 7), (89, 10)], by kernel_rfl, ?_⟩
        intro x W vals hl hR hB hv K' hK
        have hl1 : φ7.le x.1 := hl.1
        have h7 : vals 7 = Value.int .i64 (t1 * cz) := hv (86, 7) (by simp)
        have h10 : vals 10 = Value.int .i64 sz := hv (89, 10) (by simp)
        simp only [List.map_cons, List.map_nil] at hK ⊢
        generalize vals 7 = z7 at *
        subst h7
        generalize vals 10 = z10 at *
        subst h10
        simp only [updF, List.foldl_cons, List.foldl_nil, List.setIfInBounds_toArray, List.set_cons_succ, List.set_cons_zero]
        go_simp
        go_at_call 92
        (with_reducible refine (RPart_Q (P := fun ψ W => SgR w φ (w.heap.size + 1) (ψ, x.2) W) (φ := x.1) ⟨fun h => SgR.fz h, fun h hi => (SgR.call h hi).1⟩ hb1.out (Lib.hid hR)).mono ?_)
        rintro e w' ⟨g, p1, k1, c1, p2, k2, c2, ψ', rfl, H7, L7, V7⟩
        exact hK.out _ _ _ (ψ', x.2) ⟨L7.out, .inr rfl⟩ H7.out (fun _ _ h => h) ⟨g, p1, k1, c1, p2, k2, c2, rfl, V7.out⟩ rfl
      case s12 =>
        refine ⟨[], by kernel_rfl, ?_⟩
        intro x W vals hl hR hB hv K' hK
        have hl1 : φ7.le x.1 := hl.1
        simp only [List.map_cons, List.map_nil] at hK ⊢
        simp only [updF, List.foldl_cons, List.foldl_nil, List.setIfInBounds_toArray, List.set_cons_succ, List.set_cons_zero]
        go_simp
        exact hK.out _ _ _ x (sgLe_refl x) hR (fun _ _ h => h) rfl rfl
      case s13 =>
        refine ⟨[(91, 12)], by kernel_rfl, ?_⟩
        intro x W vals hl hR hB hv K' hK
        have hl1 : φ7.le x.1 := hl.1
        have h12 : vals 12 = Value.pointer (some ⟨w.heap.size, 2, none⟩) := hv (91, 12) (by simp)
        simp only [List.map_cons, List.map_nil] at hK ⊢
        generalize vals 12 = z12 at *
        subst h12
        simp only [updF, List.foldl_cons, List.foldl_nil, List.setIfInBounds_toArray, List.set_cons_succ, List.set_cons_zero]
        obtain ⟨⟨m1, m2⟩, _⟩ := hfc.out x.1 W (L27.out.trans hl1) hR.fz
        go_simp
        exact hK.out _ _ _ x (sgLe_refl x) hR (fun _ _ h => h) rfl rfl
      case s14 =>
        refine ⟨[], by kernel_rfl, ?_⟩
        intro x W vals hl hR hB hv K' hK
        have hl1 : φ7.le x.1 := hl.1
        simp only [List.map_cons, List.map_nil] at hK ⊢
        simp only [updF, List.foldl_cons, List.foldl_nil, List.setIfInBounds_toArray, List.set_cons_succ, List.set_cons_zero]
        go_simp
        exact hK.out _ _ _ x (sgLe_refl x) hR (fun _ _ h => h) rfl rfl
      case s15 =>
        refine ⟨[(93, 14)], by kernel_rfl, ?_⟩
        intro x W vals hl hR hB hv K' hK
        have hl1 : φ7.le x.1 := hl.1
        have h14 : vals 14 = Value.pointer (some ⟨w.heap.size, 2, none⟩) := hv (93, 14) (by simp)
        simp only [List.map_cons, List.map_nil] at hK ⊢
        generalize vals 14 = z14 at *
        subst h14
        simp only [updF, List.foldl_cons, List.foldl_nil, List.setIfInBounds_toArray, List.set_cons_succ, List.set_cons_zero]
        obtain ⟨⟨m1, m2⟩, _⟩ := hfc.out x.1 W (L27.out.trans hl1) hR.fz
        go_simp
        exact hK.out _ _ _ x (sgLe_refl x) hR (fun _ _ h => h) rfl rfl
      case s16 =>
        refine ⟨[(94, 15)], by kernel_rfl, ?_⟩
        intro x W vals hl hR hB hv K' hK
        have hl1 : φ7.le x.1 := hl.1
        have h15 : vals 15 = Value.int .i64 t2 := hv (94, 15) (by simp)
        simp only [List.map_cons, List.map_nil] at hK ⊢
        generalize vals 15 = z15 at *
        subst h15
        simp only [updF, List.foldl_cons, List.foldl_nil, List.setIfInBounds_toArray, List.set_cons_succ, List.set_cons_zero]
        go_simp
        exact hK.out _ _ _ x (sgLe_refl x) hR (fun _ _ h => h) rfl rfl
      case s17 =>
        refine ⟨[(92, 13), (95, 16)], by kernel_rfl, ?_⟩
        intro x W vals hl hR hB hv K' hK
        have hl1 : φ7.le x.1 := hl.1
        have h13 : vals 13 = Value.int .i64 t2 := hv (92, 13) (by simp)
        have h16 : vals 16 = Value.int .i64 (t2 - 1) := hv (95, 16) (by simp)
        simp only [List.map_cons, List.map_nil] at hK ⊢
        generalize vals 13 = z13 at *
        subst h13
        generalize vals 16 = z16 at *
        subst h16
        simp only [updF, List.foldl_cons, List.foldl_nil, List.setIfInBounds_toArray, List.set_cons_succ, List.set_cons_zero]
        go_simp
        exact hK.out _ _ _ x (sgLe_refl x) hR (fun _ _ h => h) rfl rfl
      case s18 =>
        refine ⟨[], by kernel_rfl, ?_⟩
        intro x W vals hl hR hB hv K' hK
        have hl1 : φ7.le x.1 := hl.1
        simp only [List.map_cons, List.map_nil] at hK ⊢
        simp only [updF, List.foldl_cons, List.foldl_nil, List.setIfInBounds_toArray, List.set_cons_succ, List.set_cons_zero]
        go_simp
        exact hK.out _ _ _ x (sgLe_refl x) hR (fun _ _ h => h) rfl rfl
      case s19 =>
        refine ⟨[], by kernel_rfl, ?_⟩
        intro x W vals hl hR hB hv K' hK
        have hl1 : φ7.le x.1 := hl.1
        simp only [List.map_cons, List.map_nil] at hK ⊢
        simp only [updF, List.foldl_cons, List.foldl_nil, List.setIfInBounds_toArray, List.set_cons_succ, List.set_cons_zero]
        go_simp
        exact hK.out _ _ _ x (sgLe_refl x) hR (fun _ _ h => h) rfl rfl
      case s20 =>
        refine ⟨[(98, 19)], by kernel_rfl, ?_⟩
        intro x W vals hl hR hB hv K' hK
        have hl1 : φ7.le x.1 := hl.1
        have h19 : vals 19 = Value.int .i64 (nv : Int) := hv (98, 19) (by simp)
        simp only [List.map_cons, List.map_nil] at hK ⊢
        generalize vals 19 = z19 at *
        subst h19
        simp only [updF, List.foldl_cons, List.foldl_nil, List.setIfInBounds_toArray, List.set_cons_succ, List.set_cons_zero]
        go_simp
        exact hK.out _ _ _ x (sgLe_refl x) hR (fun _ _ h => h) rfl rfl
      case s21 =>
        refine ⟨[(97, 18), (99, 20)], by kernel_rfl, ?_⟩
        intro x W vals hl hR hB hv K' hK
        have hl1 : φ7.le x.1 := hl.1
        have h18 : vals 18 = Value.int .i64 (nv : Int) := hv (97, 18) (by simp)
        have h20 : vals 20 = Value.int .i64 ((nv : Int) - 1) := hv (99, 20) (by simp)
        simp only [List.map_cons, List.map_nil] at hK ⊢
        generalize vals 18 = z18 at *
        subst h18
        generalize vals 20 = z20 at *
        subst h20
        simp only [updF, List.foldl_cons, List.foldl_nil, List.setIfInBounds_toArray, List.set_cons_succ, List.set_cons_zero]
        go_simp
        exact hK.out _ _ _ x (sgLe_refl x) hR (fun _ _ h => h) rfl rfl
      case s22 =>
        refine ⟨[(96, 17), (100, 21)], by kernel_rfl, ?_⟩
        intro x W vals hl hR hB hv K' hK
        have hl1 : φ7.le x.1 := hl.1
        have h17 : vals 17 = Value.int .i64 (t2 * (t2 - 1)) := hv (96, 17) (by simp)
        have h21 : vals 21 = Value.int .i64 ((nv : Int) * ((nv : Int) - 1)) := hv (100, 21) (by simp)
        simp only [List.map_cons, List.map_nil] at hK ⊢
        generalize vals 17 = z17 at *
        subst h17
        generalize vals 21 = z21 at *
        subst h21
        simp only [updF, List.foldl_cons, List.foldl_nil, List.setIfInBounds_toArray, List.set_cons_succ, List.set_cons_zero]
        go_simp
        go_at_call 92
        (with_reducible refine (RPart_Q (P := fun ψ W => SgR w φ (w.heap.size + 1) (ψ, x.2) W) (φ := x.1) ⟨fun h => SgR.fz h, fun h hi => (SgR.call h hi).1⟩ hb2.out (Lib.hid hR)).mono ?_)
        rintro e w' ⟨g, p1, k1, c1, p2, k2, c2, ψ', rfl, H7, L7, V7⟩
        exact hK.out _ _ _ (ψ', x.2) ⟨L7.out, .inr rfl⟩ H7.out (fun _ _ h => h) ⟨g, p1, k1, c1, p2, k2, c2, rfl, V7.out⟩ rfl
      case s23 =>
        refine ⟨[(90, 11), (101, 22)], by kernel_rfl, ?_⟩
        intro x W vals hl hR hB hv K' hK
        have hl1 : φ7.le x.1 := hl.1
        have h11 : ∃ g p1 k1 c1 p2 k2 c2, vals 11 = Value.agg #[.bool g, .slice p1 k1 c1, .slice p2 k2 c2] ∧ FrX x.1 (.agg #[.bool g, .slice p1 k1 c1, .slice p2 k2 c2]) (((t1 * cz : Int) : Rat) / ((sz : Int) : Rat)) (100000000000000) (100000000000000) := hv (90, 11) (by simp)
        have h22 : ∃ g p1 k1 c1 p2 k2 c2, vals 22 = Value.agg #[.bool g, .slice p1 k1 c1, .slice p2 k2 c2] ∧ FrX x.1 (.agg #[.bool g, .slice p1 k1 c1, .slice p2 k2 c2]) (((t2 * (t2 - 1) : Int) : Rat) / ((((nv : Int) * ((nv : Int) - 1) : Int)) : Rat)) (100000000000000) (100000000000000) := hv (101, 22) (by simp)
        simp only [List.map_cons, List.map_nil] at hK ⊢
        generalize vals 11 = z11 at *
        obtain ⟨g11, p11, k11, c11, q11, l11, d11, rfl, X11⟩ := h11
        generalize vals 22 = z22 at *
        obtain ⟨g22, p22, k22, c22, q22, l22, d22, rfl, X22⟩ := h22
        simp only [updF, List.foldl_cons, List.foldl_nil, List.setIfInBounds_toArray, List.set_cons_succ, List.set_cons_zero]
        go_simp
        go_at_call 45
        (with_reducible refine (RTimes_C (P := fun ψ W => SgR w φ (w.heap.size + 1) (ψ, x.2) W) (φ := x.1) ⟨fun h => SgR.fz h, fun h hi => (SgR.call h hi).1⟩ hRD hM.out.b (Lib.hid X11) (Lib.hid x.1.le_refl) (Lib.hid X22) (Lib.hid x.1.le_refl) hM28 hN28 (Lib.hid hR)).mono ?_)
        rintro e w' ⟨g, p1, k1, c1, p2, k2, c2, ψ', rfl, H7, L7, V7⟩
        exact hK.out _ _ _ (ψ', x.2) ⟨L7.out, .inr rfl⟩ H7.out (fun _ _ h => h) ⟨g, p1, k1, c1, p2, k2, c2, rfl, V7.out⟩ rfl
      case s24 =>
        refine ⟨[(102, 23)], by kernel_rfl, ?_⟩
        intro x W vals hl hR hB hv K' hK
        have hl1 : φ7.le x.1 := hl.1
        have h23 : ∃ g p1 k1 c1 p2 k2 c2, vals 23 = Value.agg #[.bool g, .slice p1 k1 c1, .slice p2 k2 c2] ∧ FrX x.1 (.agg #[.bool g, .slice p1 k1 c1, .slice p2 k2 c2]) (((t1 * cz : Int) : Rat) / ((sz : Int) : Rat) * (((t2 * (t2 - 1) : Int) : Rat) / ((((nv : Int) * ((nv : Int) - 1) : Int)) : Rat))) (100000000000000 * 100000000000000) (100000000000000 * 100000000000000) := hv (102, 23) (by simp)
        simp only [List.map_cons, List.map_nil] at hK ⊢
        generalize vals 23 = z23 at *
        obtain ⟨g23, p23, k23, c23, q23, l23, d23, rfl, X23⟩ := h23
        simp only [updF, List.foldl_cons, List.foldl_nil, List.setIfInBounds_toArray, List.set_cons_succ, List.set_cons_zero]
        obtain ⟨q0, q1, q2, m0, m1, m2, m3, m4, m5⟩ := SgR.facts hR
        go_simp
        exact hK.out _ undef _ (x.1, some (.bool g23, .slice p23 k23 c23, .slice q23 l23 d23)) ⟨x.1.le_refl, .inl (hB rfl)⟩ (SgR.put hR _ _ _) (fun j hj _ e => absurd e hj) ⟨g23, p23, k23, c23, q23, l23, d23, rfl, X23⟩ rfl
    case h2 =>
    rintro vals W12 ⟨g, p1, k1, c1, p2, k2, c2, φ9, hRZ, V9⟩
    simp only [updA, List.foldl_cons, List.foldl_nil, List.setIfInBounds_toArray, List.set_cons_succ, List.set_cons_zero]
    have hZ := Lib.hid hRZ
    go_wp2
    have e0 : _ = some (Value.bool g) := hZ.out.k.cell 0
    have e1 : _ = some (Value.slice p1 k1 c1) := hZ.out.k.cell 1
    have e2 : _ = some (Value.slice p2 k2 c2) := hZ.out.k.cell 2
    (try simp only [Exit.inBlock, Exit.then])
    refine bodyPost_ret (v := .agg #[.bool g, .slice p1 k1 c1, .slice p2 k2 c2]) (by simp [results, Tryz.results46, go_sem, e0, e1, e2]) rfl ?_
    exact ⟨_, φ9, rfl, hZ.out.inv, by rw [hx.out]; exact V9.leD N9.out N9.out⟩
    --R11END
  · have hxy : ¬ x0 = y0 := fun e => hc (hxyne.out e)
    have hxyb : ((x0 : Int) == (y0 : Int)) = false := by simp; omega
    have hr7 := HR6.out
    rw [if_neg hc] at hr7
    obtain ⟨R, hR_⟩ : ∃ R, Hid (bthI csz t1 x0 y0 = R) := ⟨_, Lib.hid rfl⟩
    have hRb := HS.out.bd hxn hyn
    rw [hR_.out] at hRb hr7
    rw [← Rat.mul_assoc] at hr7
    have hx := Lib.hid hr7
    have hb1 := Lib.hid (show 0 ≤ R ∧ R ≤ 100000000000000 ∧ 0 < sz ∧ sz ≤ 100000000000000 by omega)
    have hb2 := Lib.hid (show 0 ≤ t2 ∧ t2 ≤ 100000000000000 ∧ 0 < (nv : Int) ∧ (nv : Int) ≤ 100000000000000 by omega)
    have hb3 := Lib.hid (show 0 ≤ t2 ∧ t2 ≤ 100000000000000 ∧ 0 < (nw : Int) ∧ (nw : Int) ≤ 100000000000000 by omega)
    have N9 : Hid (100000000000000 * 100000000000000 * 100000000000000 ≤ NB) := Lib.hid hNB.out.1
    clear hr7 hc hRb hmu3 hz1 hz2 hz2' hz3 hz3' hst2 hst2' hst0 hszb hlo hhi
    go_upto_region 12 with (fail)
    clear hxy hxyb
    --R12
    apply wp_region_cutV (fun (vals : Nat → Value) => [(103, vals 0), (104, vals 1), (105, vals 2), (106, vals 3), (107, vals 4), (108, vals 5), (109, vals 6), (110, vals 7), (111, vals 8), (112, vals 9), (113, vals 10), (114, vals 11), (115, vals 12), (116, vals 13), (117, vals 14), (118, vals 15), (119, vals 16), (120, vals 17), (121, vals 18), (122, vals 19), (123, vals 20)])
      (fun _ W => ∃ g p1 k1 c1 p2 k2 c2 ψ, RsSt w φ ψ (w.heap.size + 1) #[.bool g, .slice p1 k1 c1, .slice p2 k2 c2] 55 W ∧ FrX ψ (.agg #[.bool g, .slice p1 k1 c1, .slice p2 k2 c2]) ((R : Rat) / ((sz : Int) : Rat) * ((t2 : Rat) / (((nv : Int)) : Rat)) * ((t2 : Rat) / (((nw : Int)) : Rat))) (100000000000000 * 100000000000000 * 100000000000000) (100000000000000 * 100000000000000 * 100000000000000))
    case h1 =>
      intro KK hKK
      refine wp_free (σ := Sg) (le := sgLe) (R := SgR w φ (w.heap.size + 1)) (V := fun (jj : Nat) (x : Sg) (v : Value) => match jj with
        | 0 => v = Value.slice (some ⟨bU, oU, none⟩) n c
        | 1 => ∃ a c, v = Value.slice a nc c ∧ SlV x.1 a c csz
        | 2 => v = Value.pointer (some ⟨w.heap.size, 1, none⟩)
        | 3 => v = Value.int .i64 t1
        | 4 => v = Value.int .i64 (x0 : Int)
        | 5 => v = Value.int .i64 (y0 : Int)
        | 6 => v = Value.int .i64 R
        | 7 => v = Value.slice (some ⟨bU, oU, none⟩) n c
        | 8 => ∃ a c, v = Value.slice a n c ∧ SlV x.1 a c zs
        | 9 => v = Value.int .i64 sz
        | 10 => ∃ g p1 k1 c1 p2 k2 c2, v = Value.agg #[.bool g, .slice p1 k1 c1, .slice p2 k2 c2] ∧ FrX x.1 (.agg #[.bool g, .slice p1 k1 c1, .slice p2 k2 c2]) ((R : Rat) / ((sz : Int) : Rat)) (100000000000000) (100000000000000)
        | 11 => v = Value.pointer (some ⟨w.heap.size, 2, none⟩)
        | 12 => v = Value.int .i64 t2
        | 13 => v = Value.int .i64 (nv : Int)
        | 14 => ∃ g p1 k1 c1 p2 k2 c2, v = Value.agg #[.bool g, .slice p1 k1 c1, .slice p2 k2 c2] ∧ FrX x.1 (.agg #[.bool g, .slice p1 k1 c1, .slice p2 k2 c2]) ((t2 : Rat) / (((nv : Int)) : Rat)) (100000000000000) (100000000000000)
        | 15 => ∃ g p1 k1 c1 p2 k2 c2, v = Value.agg #[.bool g, .slice p1 k1 c1, .slice p2 k2 c2] ∧ FrX x.1 (.agg #[.bool g, .slice p1 k1 c1, .slice p2 k2 c2]) ((R : Rat) / ((sz : Int) : Rat) * ((t2 : Rat) / (((nv : Int)) : Rat))) (100000000000000 * 100000000000000) (100000000000000 * 100000000000000)
        | 16 => v = Value.pointer (some ⟨w.heap.size, 2, none⟩)
        | 17 => v = Value.int .i64 t2
        | 18 => v = Value.int .i64 (nw : Int)
        | 19 => ∃ g p1 k1 c1 p2 k2 c2, v = Value.agg #[.bool g, .slice p1 k1 c1, .slice p2 k2 c2] ∧ FrX x.1 (.agg #[.bool g, .slice p1 k1 c1, .slice p2 k2 c2]) ((t2 : Rat) / (((nw : Int)) : Rat)) (100000000000000) (100000000000000)
        | 20 => ∃ g p1 k1 c1 p2 k2 c2, v = Value.agg #[.bool g, .slice p1 k1 c1, .slice p2 k2 c2] ∧ FrX x.1 (.agg #[.bool g, .slice p1 k1 c1, .slice p2 k2 c2]) ((R : Rat) / ((sz : Int) : Rat) * ((t2 : Rat) / (((nv : Int)) : Rat)) * ((t2 : Rat) / (((nw : Int)) : Rat))) (100000000000000 * 100000000000000 * 100000000000000) (100000000000000 * 100000000000000 * 100000000000000)
        | 21 => ∃ g p1 k1 c1 p2 k2 c2, x.2 = some (Value.bool g, Value.slice p1 k1 c1, Value.slice p2 k2 c2) ∧ FrX x.1 (.agg #[.bool g, .slice p1 k1 c1, .slice p2 k2 c2]) ((R : Rat) / ((sz : Int) : Rat) * ((t2 : Rat) / (((nv : Int)) : Rat)) * ((t2 : Rat) / (((nw : Int)) : Rat))) (100000000000000 * 100000000000000 * 100000000000000) (100000000000000 * 100000000000000 * 100000000000000)
        | _ => True) (B := fun jj x => jj = 21 → x.2 = none) (ψ0 := (φ7, none)) (by kernel_rfl) sgLe_refl sgLe_trans ?vm (by kernel_rfl) (show RsSt _ _ _ _ _ _ _ from HX10.out.drewN 1) (fun _ _ => rfl) (all_of ⟨?s0, ?s1, ?s2, ?s3, ?s4, ?s5, ?s6, ?s7, ?s8, ?s9, ?s10, ?s11, ?s12, ?s13, ?s14, ?s15, ?s16, ?s17, ?s18, ?s19, ?s20, ?s21, trivial⟩) ?fin
      case vm =>
        intro jj x y v hxy h
        match jj, h with
        | 0, h => exact h
        | 1, h => obtain ⟨a, c, e, q⟩ := h; exact ⟨a, c, e, q.mono hxy.1⟩
        | 2, h => exact h
        | 3, h => exact h
        | 4, h => exact h
        | 5, h => exact h
        | 6, h => exact h
        | 7, h => exact h
        | 8, h => obtain ⟨a, c, e, q⟩ := h; exact ⟨a, c, e, q.mono hxy.1⟩
        | 9, h => exact h
        | 10, h => obtain ⟨g, p1, k1, c1, p2, k2, c2, e, q⟩ := h; exact ⟨g, p1, k1, c1, p2, k2, c2, e, q.mono hxy.1⟩
        | 11, h => exact h
        | 12, h => exact h
        | 13, h => exact h
        | 14, h => obtain ⟨g, p1, k1, c1, p2, k2, c2, e, q⟩ := h; exact ⟨g, p1, k1, c1, p2, k2, c2, e, q.mono hxy.1⟩
        | 15, h => obtain ⟨g, p1, k1, c1, p2, k2, c2, e, q⟩ := h; exact ⟨g, p1, k1, c1, p2, k2, c2, e, q.mono hxy.1⟩
        | 16, h => exact h
        | 17, h => exact h
        | 18, h => exact h
        | 19, h => obtain ⟨g, p1, k1, c1, p2, k2, c2, e, q⟩ := h; exact ⟨g, p1, k1, c1, p2, k2, c2, e, q.mono hxy.1⟩
        | 20, h => obtain ⟨g, p1, k1, c1, p2, k2, c2, e, q⟩ := h; exact ⟨g, p1, k1, c1, p2, k2, c2, e, q.mono hxy.1⟩
        | 21, h =>
          obtain ⟨g, p1, k1, c1, p2, k2, c2, e, q⟩ := h
          refine ⟨g, p1, k1, c1, p2, k2, c2, ?_, q.mono hxy.1⟩
          rcases hxy.2 with h | h
          · rw [h] at e; cases e
          · rw [h, e]
        | _ + 22, h => trivial
      case fin =>
        intro x W vals hl hR hv
        obtain ⟨g, p1, k1, c1, p2, k2, c2, e, q⟩ := hv 21 (by decide)
        have hk := hKK.out vals W ⟨g, p1, k1, c1, p2, k2, c2, x.1, by unfold SgR at hR; rw [e] at hR; exact hR, q⟩
        exact hk
      case s0 =>
        refine ⟨[], by kernel_rfl, ?_⟩
        intro x W vals hl hR hB hv K' hK
        have hl1 : φ7.le x.1 := hl.1
        simp only [List.map_cons, List.map_nil] at hK ⊢
        simp only [updF, List.foldl_cons, List.foldl_nil, List.setIfInBounds_toArray, List.set_cons_succ, List.set_cons_zero]
        go_simp
        exact hK.out _ _ _ x (sgLe_refl x) hR (fun _ _ h => h) rfl rfl
      case s1 =>
        refine ⟨[(103, 0)], by kernel_rfl, ?_⟩
        intro x W vals hl hR hB hv K' hK
        have hl1 : φ7.le x.1 := hl.1
        have h0 : vals 0 = Value.slice (some ⟨bU, oU, none⟩) n c := hv (103, 0) (by simp)
        simp only [List.map_cons, List.map_nil] at hK ⊢
        generalize vals 0 = z0 at *
        subst h0
        simp only [updF, List.foldl_cons, List.foldl_nil, List.setIfInBounds_toArray, List.set_cons_succ, List.set_cons_zero]
        go_simp
        go_at_call 98
        (with_reducible refine (RsizesOf_any hR.fz (SL7.out.mono hl1) hn hl5 hok).mono ?_)
        rintro e w' ⟨a4, c4, ψ', rfl, hi4, s4⟩
        rw [hcs.out] at s4 ⊢
        rw [hcsl.out]
        obtain ⟨r4, l4⟩ := SgR.call hR hi4
        exact hK.out _ _ _ (ψ', x.2) l4 r4 (fun _ _ h => h) ⟨a4, c4, rfl, s4⟩ rfl
      case s2 =>
        refine ⟨[], by kernel_rfl, ?_⟩
        intro x W vals hl hR hB hv K' hK
        have hl1 : φ7.le x.1 := hl.1
        simp only [List.map_cons, List.map_nil] at hK ⊢
        simp only [updF, List.foldl_cons, List.foldl_nil, List.setIfInBounds_toArray, List.set_cons_succ, List.set_cons_zero]
        go_simp
        exact hK.out _ _ _ x (sgLe_refl x) hR (fun _ _ h => h) rfl rfl
      case s3 =>
        refine ⟨[(105, 2)], by kernel_rfl, ?_⟩
        intro x W vals hl hR hB hv K' hK
        have hl1 : φ7.le x.1 := hl.1
        have h2 : vals 2 = Value.pointer (some ⟨w.heap.size, 1, none⟩) := hv (105, 2) (by simp)
        simp only [List.map_cons, List.map_nil] at hK ⊢
        generalize vals 2 = z2 at *
        subst h2
        simp only [updF, List.foldl_cons, List.foldl_nil, List.setIfInBounds_toArray, List.set_cons_succ, List.set_cons_zero]
        obtain ⟨⟨m1, m2⟩, _⟩ := hfc.out x.1 W (L27.out.trans hl1) hR.fz
        go_simp
        exact hK.out _ _ _ x (sgLe_refl x) hR (fun _ _ h => h) rfl rfl
      case s4 =>
        refine ⟨[], by kernel_rfl, ?_⟩
        intro x W vals hl hR hB hv K' hK
        have hl1 : φ7.le x.1 := hl.1
        simp only [List.map_cons, List.map_nil] at hK ⊢
        simp only [updF, List.foldl_cons, List.foldl_nil, List.setIfInBounds_toArray, List.set_cons_succ, List.set_cons_zero]
        go_simp
        exact hK.out _ _ _ x (sgLe_refl x) hR (fun _ _ h => h) rfl rfl
      case s5 =>
        refine ⟨[], by kernel_rfl, ?_⟩
        intro x W vals hl hR hB hv K' hK
        have hl1 : φ7.le x.1 := hl.1
        simp only [List.map_cons, List.map_nil] at hK ⊢
        simp only [updF, List.foldl_cons, List.foldl_nil, List.setIfInBounds_toArray, List.set_cons_succ, List.set_cons_zero]
        go_simp
        exact hK.out _ _ _ x (sgLe_refl x) hR (fun _ _ h => h) rfl rfl
      case s6 =>
        refine ⟨[(104, 1), (106, 3), (107, 4), (108, 5)], by kernel_rfl, ?_⟩
        intro x W vals hl hR hB hv K' hK
        have hl1 : φ7.le x.1 := hl.1
        have h1 : ∃ a c, vals 1 = Value.slice a nc c ∧ SlV x.1 a c csz := hv (104, 1) (by simp)
        have h3 : vals 3 = Value.int .i64 t1 := hv (106, 3) (by simp)
        have h4 : vals 4 = Value.int .i64 (x0 : Int) := hv (107, 4) (by simp)
        have h5 : vals 5 = Value.int .i64 (y0 : Int) := hv (108, 5) (by simp)
        simp only [List.map_cons, List.map_nil] at hK ⊢
        generalize vals 1 = z1 at *
        obtain ⟨a1, c1, rfl, S1⟩ := h1
        generalize vals 3 = z3 at *
        subst h3
        generalize vals 4 = z4 at *
        subst h4
        generalize vals 5 = z5 at *
        subst h5
        simp only [updF, List.foldl_cons, List.foldl_nil, List.setIfInBounds_toArray, List.set_cons_succ, List.set_cons_zero]
        go_simp
        go_at_call 108
        (with_reducible refine (together_any hR.fz S1 HS hxn hyn hR_).mono ?_)
        rintro e w' ⟨rfl, hb'⟩
        exact hK.out _ _ _ x (sgLe_refl x) (hR.callB hb') (fun _ _ h => h) rfl rfl
      case s7 =>
        refine ⟨[], by kernel_rfl, ?_⟩
        intro x W vals hl hR hB hv K' hK
        have hl1 : φ7.le x.1 := hl.1
        simp only [List.map_cons, List.map_nil] at hK ⊢
        simp only [updF, List.foldl_cons, List.foldl_nil, List.setIfInBounds_toArray, List.set_cons_succ, List.set_cons_zero]
        go_simp
        exact hK.out _ _ _ x (sgLe_refl x) hR (fun _ _ h => h) rfl rfl
      case s8 =>
        refine ⟨[(110, 7)], by kernel_rfl, ?_⟩
        intro x W vals hl hR hB hv K' hK
        have hl1 : φ7.le x.1 := hl.1
        have h7 : vals 7 = Value.slice (some ⟨bU, oU, none⟩) n c := hv (110, 7) (by simp)
        simp only [List.map_cons, List.map_nil] at hK ⊢
        generalize vals 7 = z7 at *
        subst h7
        simp only [updF, List.foldl_cons, List.foldl_nil, List.setIfInBounds_toArray, List.set_cons_succ, List.set_cons_zero]
        go_simp
        go_at_call 91
        (with_reducible refine (Rsizes_any hR.fz (SL7.out.mono hl1) hn hl5).mono ?_)
        rintro e w' ⟨a4, c4, ψ', rfl, hi4, s4⟩
        rw [hzs.out] at s4 ⊢
        rw [hzl.out]
        obtain ⟨r4, l4⟩ := SgR.call hR hi4
        exact hK.out _ _ _ (ψ', x.2) l4 r4 (fun _ _ h => h) ⟨a4, c4, rfl, s4⟩ rfl
      case s9 =>
        refine ⟨[(111, 8)], by kernel_rfl, ?_⟩
        intro x W vals hl hR hB hv K' hK
        have hl1 : φ7.le x.1 := hl.1
        have h8 : ∃ a c, vals 8 = Value.slice a n c ∧ SlV x.1 a c zs := hv (111, 8) (by simp)
        simp only [List.map_cons, List.map_nil] at hK ⊢
        generalize vals 8 = z8 at *
        obtain ⟨a8, c8, rfl, S8⟩ := h8
        simp only [updF, List.foldl_cons, List.foldl_nil, List.setIfInBounds_toArray, List.set_cons_succ, List.set_cons_zero]
        go_simp
        go_at_call 90
        (with_reducible refine (total_q hR.fz S8 hE).mono ?_)
        rintro e w' ⟨rfl, hw'⟩
        exact hK.out _ _ _ x (sgLe_refl x) (by rw [hw']; exact hR) (fun _ _ h => h) rfl rfl
      case s10 =>
        refine ⟨[(109, 6), (112, 9)], by kernel_rfl, ?_⟩
        intro x W vals hl hR hB hv K' hK
        have hl1 : φ7.le x.1 := hl.1
        have h6 : vals 6 = Value.int .i64 R := hv (109, 6) (by simp)
        have h9 : vals 9 = Value.int .i64 sz := hv (112, 9) (by simp)
        simp only [List.map_cons, List.map_nil] at hK ⊢
        generalize vals 6 = z6 at *
        subst h6
        generalize vals 9 = z9 at *
        subst h9
        simp only [updF, List.foldl_cons, List.foldl_nil, List.setIfInBounds_toArray, List.set_cons_succ, List.set_cons_zero]
        go_simp
        go_at_call 92
        (with_reducible refine (RPart_Q (P := fun ψ W => SgR w φ (w.heap.size + 1) (ψ, x.2) W) (φ := x.1) ⟨fun h => SgR.fz h, fun h hi => (SgR.call h hi).1⟩ hb1.out (Lib.hid hR)).mono ?_)
        rintro e w' ⟨g, p1, k1, c1, p2, k2, c2, ψ', rfl, H7, L7, V7⟩
        exact hK.out _ _ _ (ψ', x.2) ⟨L7.out, .inr rfl⟩ H7.out (fun _ _ h => h) ⟨g, p1, k1, c1, p2, k2, c2, rfl, V7.out⟩ rfl
      case s11 =>
        refine ⟨[], by kernel_rfl, ?_⟩
        intro x W vals hl hR hB hv K' hK
        have hl1 : φ7.le x.1 := hl.1
        simp only [List.map_cons, List.map_nil] at hK ⊢
        simp only [updF, List.foldl_cons, List.foldl_nil, List.setIfInBounds_toArray, List.set_cons_succ, List.set_cons_zero]
        go_simp
        exact hK.out _ _ _ x (sgLe_refl x) hR (fun _ _ h => h) rfl rfl
      case s12 =>
        refine ⟨[(114, 11)], by kernel_rfl, ?_⟩
        intro x W vals hl hR hB hv K' hK
        have hl1 : φ7.le x.1 := hl.1
        have h11 : vals 11 = Value.pointer (some ⟨w.heap.size, 2, none⟩) := hv (114, 11) (by simp)
        simp only [List.map_cons, List.map_nil] at hK ⊢
        generalize vals 11 = z11 at *
        subst h11
        simp only [updF, List.foldl_cons, List.foldl_nil, List.setIfInBounds_toArray, List.set_cons_succ, List.set_cons_zero]
        obtain ⟨⟨m1, m2⟩, _⟩ := hfc.out x.1 W (L27.out.trans hl1) hR.fz
        go_simp
        exact hK.out _ _ _ x (sgLe_refl x) hR (fun _ _ h => h) rfl rfl
      case s13 =>
        refine ⟨[], by kernel_rfl, ?_⟩
        intro x W vals hl hR hB hv K' hK
        have hl1 : φ7.le x.1 := hl.1
        simp only [List.map_cons, List.map_nil] at hK ⊢
        simp only [updF, List.foldl_cons, List.foldl_nil, List.setIfInBounds_toArray, List.set_cons_succ, List.set_cons_zero]
        go_simp
        exact hK.out _ _ _ x (sgLe_refl x) hR (fun _ _ h => h) rfl rfl
      case s14 =>
        refine ⟨[(115, 12), (116, 13)], by kernel_rfl, ?_⟩
        intro x W vals hl hR hB hv K' hK
        have hl1 : φ7.le x.1 := hl.1
        have h12 : vals 12 = Value.int .i64 t2 := hv (115, 12) (by simp)
        have h13 : vals 13 = Value.int .i64 (nv : Int) := hv (116, 13) (by simp)
        simp only [List.map_cons, List.map_nil] at hK ⊢
        generalize vals 12 = z12 at *
        subst h12
        generalize vals 13 = z13 at *
        subst h13
        simp only [updF, List.foldl_cons, List.foldl_nil, List.setIfInBounds_toArray, List.set_cons_succ, List.set_cons_zero]
        go_simp
        go_at_call 92
        (with_reducible refine (RPart_Q (P := fun ψ W => SgR w φ (w.heap.size + 1) (ψ, x.2) W) (φ := x.1) ⟨fun h => SgR.fz h, fun h hi => (SgR.call h hi).1⟩ hb2.out (Lib.hid hR)).mono ?_)
        rintro e w' ⟨g, p1, k1, c1, p2, k2, c2, ψ', rfl, H7, L7, V7⟩
        exact hK.out _ _ _ (ψ', x.2) ⟨L7.out, .inr rfl⟩ H7.out (fun _ _ h => h) ⟨g, p1, k1, c1, p2, k2, c2, rfl, V7.out⟩ rfl
      case s15 =>
        refine ⟨[(113, 10), (117, 14)], by kernel_rfl, ?_⟩
        intro x W vals hl hR hB hv K' hK
        have hl1 : φ7.le x.1 := hl.1
        have h10 : ∃ g p1 k1 c1 p2 k2 c2, vals 10 = Value.agg #[.bool g, .slice p1 k1 c1, .slice p2 k2 c2] ∧ FrX x.1 (.agg #[.bool g, .slice p1 k1 c1, .slice p2 k2 c2]) ((R : Rat) / ((sz : Int) : Rat)) (100000000000000) (100000000000000) := hv (113, 10) (by simp)
        have h14 : ∃ g p1 k1 c1 p2 k2 c2, vals 14 = Value.agg #[.bool g, .slice p1 k1 c1, .slice p2 k2 c2] ∧ FrX x.1 (.agg #[.bool g, .slice p1 k1 c1, .slice p2 k2 c2]) ((t2 : Rat) / (((nv : Int)) : Rat)) (100000000000000) (100000000000000) := hv (117, 14) (by simp)
        simp only [List.map_cons, List.map_nil] at hK ⊢
        generalize vals 10 = z10 at *
        obtain ⟨g10, p10, k10, c10, q10, l10, d10, rfl, X10⟩ := h10
        generalize vals 14 = z14 at *
        obtain ⟨g14, p14, k14, c14, q14, l14, d14, rfl, X14⟩ := h14
        simp only [updF, List.foldl_cons, List.foldl_nil, List.setIfInBounds_toArray, List.set_cons_succ, List.set_cons_zero]
        go_simp
        go_at_call 45
        (with_reducible refine (RTimes_C (P := fun ψ W => SgR w φ (w.heap.size + 1) (ψ, x.2) W) (φ := x.1) ⟨fun h => SgR.fz h, fun h hi => (SgR.call h hi).1⟩ hRD hM.out.b (Lib.hid X10) (Lib.hid x.1.le_refl) (Lib.hid X14) (Lib.hid x.1.le_refl) hM28 hN28 (Lib.hid hR)).mono ?_)
        rintro e w' ⟨g, p1, k1, c1, p2, k2, c2, ψ', rfl, H7, L7, V7⟩
        exact hK.out _ _ _ (ψ', x.2) ⟨L7.out, .inr rfl⟩ H7.out (fun _ _ h => h) ⟨g, p1, k1, c1, p2, k2, c2, rfl, V7.out⟩ rfl
      case s16 =>
        refine ⟨[], by kernel_rfl, ?_⟩
        intro x W vals hl hR hB hv K' hK
        have hl1 : φ7.le x.1 := hl.1
        simp only [List.map_cons, List.map_nil] at hK ⊢
        simp only [updF, List.foldl_cons, List.foldl_nil, List.setIfInBounds_toArray, List.set_cons_succ, List.set_cons_zero]
        go_simp
        exact hK.out _ _ _ x (sgLe_refl x) hR (fun _ _ h => h) rfl rfl
      case s17 =>
        refine ⟨[(119, 16)], by kernel_rfl, ?_⟩
        intro x W vals hl hR hB hv K' hK
        have hl1 : φ7.le x.1 := hl.1
        have h16 : vals 16 = Value.pointer (some ⟨w.heap.size, 2, none⟩) := hv (119, 16) (by simp)
        simp only [List.map_cons, List.map_nil] at hK ⊢
        generalize vals 16 = z16 at *
        subst h16
        simp only [updF, List.foldl_cons, List.foldl_nil, List.setIfInBounds_toArray, List.set_cons_succ, List.set_cons_zero]
        obtain ⟨⟨m1, m2⟩, _⟩ := hfc.out x.1 W (L27.out.trans hl1) hR.fz
        go_simp
        exact hK.out _ _ _ x (sgLe_refl x) hR (fun _ _ h => h) rfl rfl
      case s18 =>
        refine ⟨[], by kernel_rfl, ?_⟩
        intro x W vals hl hR hB hv K' hK
        have hl1 : φ7.le x.1 := hl.1
        simp only [List.map_cons, List.map_nil] at hK ⊢
        simp only [updF, List.foldl_cons, List.foldl_nil, List.setIfInBounds_toArray, List.set_cons_succ, List.set_cons_zero]
        go_simp
        exact hK.out _ _ _ x (sgLe_refl x) hR (fun _ _ h => h) rfl rfl
      case s19 =>
        refine ⟨[(120, 17), (121, 18)], by kernel_rfl, ?_⟩
        intro x W vals hl hR hB hv K' hK
        have hl1 : φ7.le x.1 := hl.1
        have h17 : vals 17 = Value.int .i64 t2 := hv (120, 17) (by simp)
        have h18 : vals 18 = Value.int .i64 (nw : Int) := hv (121, 18) (by simp)
        simp only [List.map_cons, List.map_nil] at hK ⊢
        generalize vals 17 = z17 at *
        subst h17
        generalize vals 18 = z18 at *
        subst h18
        simp only [updF, List.foldl_cons, List.foldl_nil, List.setIfInBounds_toArray, List.set_cons_succ, List.set_cons_zero]
        go_simp
        go_at_call 92
        (with_reducible refine (RPart_Q (P := fun ψ W => SgR w φ (w.heap.size + 1) (ψ, x.2) W) (φ := x.1) ⟨fun h => SgR.fz h, fun h hi => (SgR.call h hi).1⟩ hb3.out (Lib.hid hR)).mono ?_)
        rintro e w' ⟨g, p1, k1, c1, p2, k2, c2, ψ', rfl, H7, L7, V7⟩
        exact hK.out _ _ _ (ψ', x.2) ⟨L7.out, .inr rfl⟩ H7.out (fun _ _ h => h) ⟨g, p1, k1, c1, p2, k2, c2, rfl, V7.out⟩ rfl
      case s20 =>
        refine ⟨[(118, 15), (122, 19)], by kernel_rfl, ?_⟩
        intro x W vals hl hR hB hv K' hK
        have hl1 : φ7.le x.1 := hl.1
        have h15 : ∃ g p1 k1 c1 p2 k2 c2, vals 15 = Value.agg #[.bool g, .slice p1 k1 c1, .slice p2 k2 c2] ∧ FrX x.1 (.agg #[.bool g, .slice p1 k1 c1, .slice p2 k2 c2]) ((R : Rat) / ((sz : Int) : Rat) * ((t2 : Rat) / (((nv : Int)) : Rat))) (100000000000000 * 100000000000000) (100000000000000 * 100000000000000) := hv (118, 15) (by simp)
        have h19 : ∃ g p1 k1 c1 p2 k2 c2, vals 19 = Value.agg #[.bool g, .slice p1 k1 c1, .slice p2 k2 c2] ∧ FrX x.1 (.agg #[.bool g, .slice p1 k1 c1, .slice p2 k2 c2]) ((t2 : Rat) / (((nw : Int)) : Rat)) (100000000000000) (100000000000000) := hv (122, 19) (by simp)
        simp only [List.map_cons, List.map_nil] at hK ⊢
        generalize vals 15 = z15 at *
        obtain ⟨g15, p15, k15, c15, q15, l15, d15, rfl, X15⟩ := h15
        generalize vals 19 = z19 at *
        obtain ⟨g19, p19, k19, c19, q19, l19, d19, rfl, X19⟩ := h19
        simp only [updF, List.foldl_cons, List.foldl_nil, List.setIfInBounds_toArray, List.set_cons_succ, List.set_cons_zero]
        go_simp
        go_at_call 45
        (with_reducible refine (RTimes_C (P := fun ψ W => SgR w φ (w.heap.size + 1) (ψ, x.2) W) (φ := x.1) ⟨fun h => SgR.fz h, fun h hi => (SgR.call h hi).1⟩ hRD hM.out.b (Lib.hid X15) (Lib.hid x.1.le_refl) (Lib.hid X19) (Lib.hid x.1.le_refl) hM42 hN42 (Lib.hid hR)).mono ?_)
        rintro e w' ⟨g, p1, k1, c1, p2, k2, c2, ψ', rfl, H7, L7, V7⟩
        exact hK.out _ _ _ (ψ', x.2) ⟨L7.out, .inr rfl⟩ H7.out (fun _ _ h => h) ⟨g, p1, k1, c1, p2, k2, c2, rfl, V7.out⟩ rfl
      case s21 =>
        refine ⟨[(123, 20)], by kernel_rfl, ?_⟩
        intro x W vals hl hR hB hv K' hK
        have hl1 : φ7.le x.1 := hl.1
        have h20 : ∃ g p1 k1 c1 p2 k2 c2, vals 20 = Value.agg #[.bool g, .slice p1 k1 c1, .slice p2 k2 c2] ∧ FrX x.1 (.agg #[.bool g, .slice p1 k1 c1, .slice p2 k2 c2]) ((R : Rat) / ((sz : Int) : Rat) * ((t2 : Rat) / (((nv : Int)) : Rat)) * ((t2 : Rat) / (((nw : Int)) : Rat))) (100000000000000 * 100000000000000 * 100000000000000) (100000000000000 * 100000000000000 * 100000000000000) := hv (123, 20) (by simp)
        simp only [List.map_cons, List.map_nil] at hK ⊢
        generalize vals 20 = z20 at *
        obtain ⟨g20, p20, k20, c20, q20, l20, d20, rfl, X20⟩ := h20
        simp only [updF, List.foldl_cons, List.foldl_nil, List.setIfInBounds_toArray, List.set_cons_succ, List.set_cons_zero]
        obtain ⟨q0, q1, q2, m0, m1, m2, m3, m4, m5⟩ := SgR.facts hR
        go_simp
        exact hK.out _ undef _ (x.1, some (.bool g20, .slice p20 k20 c20, .slice q20 l20 d20)) ⟨x.1.le_refl, .inl (hB rfl)⟩ (SgR.put hR _ _ _) (fun j hj _ e => absurd e hj) ⟨g20, p20, k20, c20, q20, l20, d20, rfl, X20⟩ rfl
    case h2 =>
    rintro vals W12 ⟨g, p1, k1, c1, p2, k2, c2, φ9, hRZ, V9⟩
    simp only [updA, List.foldl_cons, List.foldl_nil, List.setIfInBounds_toArray, List.set_cons_succ, List.set_cons_zero]
    have hZ := Lib.hid hRZ
    go_wp2
    have e0 : _ = some (Value.bool g) := hZ.out.k.cell 0
    have e1 : _ = some (Value.slice p1 k1 c1) := hZ.out.k.cell 1
    have e2 : _ = some (Value.slice p2 k2 c2) := hZ.out.k.cell 2
    (try simp only [Exit.inBlock, Exit.then])
    refine bodyPost_ret (v := .agg #[.bool g, .slice p1 k1 c1, .slice p2 k2 c2]) (by simp [results, Tryz.results46, go_sem, e0, e1, e2]) rfl ?_
    exact ⟨_, φ9, rfl, hZ.out.inv, by rw [hx.out]; exact V9.leD N9.out N9.out⟩
    --R12END
theorem Rjoint_any {M : Nat} (hM : Hid (MOk M)) (hRD : Hid (RdivOk M)) {w : World} {kind : Int} (hk : kind = 1 ∨ kind = 2 ∨ kind = 3) {s : ByteArray} {t1 t2 : Int} {a : Option Addr} {c n : Nat} {us : List Unt} {φ : Phi} (hφ : Fz φ w) (sl : SlV φ a c us) (hn : Hid (us.length = n)) (hl : n ≤ 5000) (hok : Hid (∀ u ∈ us, 1 ≤ u.2.2.2 ∧ u.2.2.2 ≤ 1000000)) (ht : Hid (TkOk kind (s, t1, t2) us))
    {i k : Nat} (hi : i < n) (hkn : k < n) {u1 : Int} {u2 : ByteArray} {u3 u4 : Int} (hu : Hid (us.getD i unt0 = (u1, u2, u3, u4))) {v1 : Int} {v2 : ByteArray} {v3 v4 : Int} (hv : Hid (us.getD k unt0 = (v1, v2, v3, v4))) (hiu : Hid (iU us u1 = i)) (hiv : Hid (iU us v1 = k)) (hne : Hid (u1 ≠ v1)) {NB : Nat} (hNB : Hid (100000000000000 * 100000000000000 * 100000000000000 ≤ NB ∧ NB ≤ M)) :
    Calls Tryz.prog 46 #[.int .i64 kind, .agg #[.string s, .int .i64 t1, .int .i64 t2], .slice a n c, .int .i64 (i : Int), .int .i64 (k : Int)] w (FrXP (jnR kind (s, t1, t2) us (u1, u2, u3, u4) (v1, v2, v3, v4)) NB NB φ w) := by
  rcases hk with rfl | rfl | rfl
  · exact Rjoint12_any hM hRD (.inl rfl) hφ sl hn hl hok ht hi hkn hu hv hiu hiv hne hNB
  · exact Rjoint12_any hM hRD (.inr rfl) hφ sl hn hl hok ht hi hkn hu hv hiu hiv hne hNB
  · exact Rjoint3_any hM hRD hφ sl hn hl hok ht hi hkn hu hv hiu hiv hne hNB
end Go.Proofs.YtnlhalnjbkpdnaaGreatDoor
