/- The walk of joint, the program's side. Conditions: the plan fits; the two units are not the same; the library's table of powers of ten reads as it was laid. The walk of Joint, the program's side. Conditions: the library's tables of blanks and of powers of ten read as they were laid; texts of a length that a form reaches. Conditions: none beyond what the claim form gives. -/
import Derived.Test.YtnlhalnjbkpdnaaGreatDoorZJ
namespace Go.Proofs.YtnlhalnjbkpdnaaGreatDoor
open Go.RowKit Go.Sort
set_option linter.unusedVariables false
set_option linter.unusedSimpArgs false
/-- Two units of a list that are not the same. -/
theorem two_le {α : Type} {l : List α} {x y : α} (hx : x ∈ l) (hy : y ∈ l) (h : x ≠ y) : 2 ≤ l.length := by
  match l, hx, hy with
  | [z], hx, hy =>
    rw [List.mem_singleton] at hx hy
    exact absurd (hx.trans hy.symm) h
  | a :: b :: l, _, _ => simp
theorem clu_at {us : List Unt} {cs : List Clu} {nc : Nat} {u : Unt} (hcs : (cnsL us).map (cluF us) = cs) (hcl : cs.length = nc) (hu : u ∈ us) : ∃ x, iC us u.2.2.1 = x ∧ x < nc ∧ cs.getD x clu0 = (u.2.2.1, szU (clU us u.2.2.1), clU us u.2.2.1) ∧ Fnd (fun i => (cs.getD i clu0).1 = u.2.2.1) nc (x : Int) := by
  obtain ⟨v, hv⟩ := fnd_ex (fun i => (cs.getD i clu0).1 = u.2.2.1) nc
  have hex : ∃ c ∈ cs, c.1 = u.2.2.1 := by
    rw [← hcs]
    exact ⟨cluF us u.2.2.1, List.mem_map.2 ⟨_, mem_cnsL.2 ⟨u, hu, rfl⟩, rfl⟩, rfl⟩
  obtain ⟨h1, h2, h3⟩ := fnd_idx (f := fun c : Clu => c.1) hcl hex hv
  have he : cs.findIdx (fun y => decide (y.1 = u.2.2.1)) = iC us u.2.2.1 := by
    rw [← hcs, List.findIdx_map]
    rfl
  rw [he] at h1 h2 h3
  refine ⟨_, rfl, h2, ?_, by rw [← h1]; exact hv⟩
  have e0 : ∃ c, cs.getD (iC us u.2.2.1) clu0 = cluF us c := by
    rw [getD_elem0 _ _ _ (by rw [hcl]; exact h2)]
    subst hcs
    exact ⟨_, List.getElem_map _⟩
  obtain ⟨c, hc⟩ := e0
  rw [hc] at h3 ⊢
  have : c = u.2.2.1 := h3
  rw [this]; rfl
set_option maxRecDepth 100000 in
set_option maxHeartbeats 8000000 in
theorem joint_any {M : Nat} (hM : Hid (MOk M)) {w : World} {φ : Phi} (hφ : Fz φ w) (hp : PowP φ) {p : Nat} {kind : Int} {aT : Option Addr} {nT cT : Nat} {ts : List Tak} {aL : Option Addr} {nL cL : Nat} {ls : List Lyr} (pl : PlAt φ p kind aT nT cT ts aL nL cL ls) (hk : kind = 1 ∨ kind = 2 ∨ kind = 3)
    {k : Nat} (hkT : k < nT) (hkL : k < nL) {nm : ByteArray} {us : List Unt} {s : ByteArray} {t1 t2 : Int} (hL : Hid (ls.getD k lyr0 = (nm, us, szU us, (cnsL us).map (cluF us)))) (hT : Hid (ts.getD k tak0 = (s, t1, t2))) (ht : Hid (TkOk kind (s, t1, t2) us)) {n : Nat} (hn : Hid (us.length = n)) (hl : n ≤ 5000) (hok : Hid (∀ u ∈ us, 1 ≤ u.2.2.2 ∧ u.2.2.2 ≤ 1000000))
    {u1 : Int} {u2 : ByteArray} {u3 u4 : Int} (hu : Hid ((u1, u2, u3, u4) ∈ us)) {v1 : Int} {v2 : ByteArray} {v3 v4 : Int} (hv : Hid ((v1, v2, v3, v4) ∈ us)) (hne : Hid (u1 ≠ v1)) {S T : ByteArray} (hr : Hid (shtT (jnR kind (s, t1, t2) us (u1, u2, u3, u4) (v1, v2, v3, v4)) = (S, T))) :
    Calls Tryz.prog 43 #[.pointer (some ⟨p, 0, none⟩), .int .i64 (k : Int), .agg #[.int .i64 u1, .string u2, .int .i64 u3, .int .i64 u4], .agg #[.int .i64 v1, .string v2, .int .i64 v3, .int .i64 v4]] w (fun e w' => e = .returned (.agg #[.string S, .string T]) ∧ Below w.heap.size w w') := by
  obtain ⟨φ0, hle0, hi0, hb0⟩ := (Inv.start hφ).frz (.cells #[.int .i64 u1, .string u2, .int .i64 u3, .int .i64 u4] 64)
  obtain ⟨φ1, hle1, hi1, hb1⟩ := hi0.frz (.cells #[.int .i64 v1, .string v2, .int .i64 v3, .int .i64 v4] 64)
  rw [alloc_sz] at hb1
  have hx0 := RsSt.start hi1 #[.string ⟨#[]⟩, .string ⟨#[]⟩] 33
  have HX0 : Hid (RsSt w φ φ1 (w.heap.size + 1 + 1) #[.string ⟨#[]⟩, .string ⟨#[]⟩] 33 (((w.alloc (.cells #[.int .i64 u1, .string u2, .int .i64 u3, .int .i64 u4] 64)).alloc (.cells #[.int .i64 v1, .string v2, .int .i64 v3, .int .i64 v4] 64)).alloc (.cells #[.string ⟨#[]⟩, .string ⟨#[]⟩] 33))) := Lib.hid (by simpa only [alloc_sz] using hx0)
  have PL := Lib.hid (pl.mono (hle0.trans hle1))
  have HB0 := Lib.hid (hle1 _ _ hb0)
  have HB1 := Lib.hid hb1
  have HP := Lib.hid (hp.mono (hle0.trans hle1))
  have hTl := Lib.hid pl.nT
  have hLl := Lib.hid pl.nL
  clear hle0 hi0 hb0 hle1 hi1 hb1 hx0 hφ hp pl
  obtain ⟨sz, hsz⟩ : ∃ z, Hid (szU us = z) := ⟨_, Lib.hid rfl⟩
  obtain ⟨nc, hnc⟩ : ∃ z, Hid ((cnsL us).length = z) := ⟨_, Lib.hid rfl⟩
  rw [hsz.out] at hL
  obtain ⟨bL, oL, rfl, f1⟩ := PL.out.sL.lyrS hLl hkL
  obtain ⟨aU, cU, aC, cC, sU, sC, f1⟩ := f1 k hkL
  obtain ⟨bT, oT, rfl, f2⟩ := PL.out.sT.takD hTl hkT
  have f2 := f2 k hkT
  rw [hL.out] at f1 sU sC
  rw [hT.out] at f2
  dsimp only at f1 f2 sU sC
  rw [List.length_map, hn.out, hnc.out] at f1
  have SU := Lib.hid sU
  have SC := Lib.hid sC
  have hbox := Lib.hid (fun (ψ : Phi) (W : World) (hl : φ1.le ψ) (hf : Fz ψ W) => (⟨(hf.blk (hl _ _ PL.out.box)).cell 0, (hf.blk (hl _ _ PL.out.box)).cell 1, (hf.blk (hl _ _ PL.out.box)).cell 2, (f1 W (hf.sub hl)).2, (f2 W (hf.sub hl)).2⟩ :
    (W.cell? ⟨p, 0, none⟩ = some (.int .i64 kind) ∧ W.cell? ⟨p, 1, none⟩ = some (.slice (some ⟨bT, oT, none⟩) nT cT) ∧ W.cell? ⟨p, 2, none⟩ = some (.slice (some ⟨bL, oL, none⟩) nL cL) ∧ (W.cell? ⟨bL, oL + k * 4, none⟩ = some (.string nm) ∧ W.cell? ⟨bL, oL + k * 4 + 1, none⟩ = some (.slice aU n cU) ∧ W.cell? ⟨bL, oL + k * 4 + 2, none⟩ = some (.int .i64 sz) ∧ W.cell? ⟨bL, oL + k * 4 + 3, none⟩ = some (.slice aC nc cC)) ∧ (W.cell? ⟨bT, oT + k * 3, none⟩ = some (.string s) ∧ W.cell? ⟨bT, oT + k * 3 + 1, none⟩ = some (.int .i64 t1) ∧ W.cell? ⟨bT, oT + k * 3 + 2, none⟩ = some (.int .i64 t2)))))
  clear f1 f2 sU sC
  go_enter Tryz.func43, Tryz.ntmps43
  go_upto_region 1 with (fail)
  generalize ((w.alloc (.cells #[.int .i64 u1, .string u2, .int .i64 u3, .int .i64 u4] 64)).alloc (.cells #[.int .i64 v1, .string v2, .int .i64 v3, .int .i64 v4] 64)).alloc (.cells #[.string ⟨#[]⟩, .string ⟨#[]⟩] 33) = w1 at *
  have hXd : Hid (RsSt w φ φ1 (w.heap.size + 1 + 1) #[.string ⟨#[]⟩, .string ⟨#[]⟩] 33 w1.drew) := Lib.hid (HX0.out.drewN 1)
  have hF1 : Fz φ1 w1 := hXd.out.inv.fz
  have hN : ∀ g, w1.heap.size ≤ g → φ1 g = none := fun g hg => hXd.out.inv.fz.new_none hg
  have hF0 : Fz φ1 w1.drew := hXd.out.inv.fz
  have hS9 := fun (W : World) (hf : Fz φ1 W) => (⟨(hbox.out φ1 W φ1.le_refl hf).2.1, (hbox.out φ1 W φ1.le_refl hf).2.2.1, (hbox.out φ1 W φ1.le_refl hf).2.2.2.1, (hbox.out φ1 W φ1.le_refl hf).2.2.2.2⟩ :
    W.cell? ⟨p, 1, none⟩ = some (.slice (some ⟨bT, oT, none⟩) nT cT) ∧ W.cell? ⟨p, 2, none⟩ = some (.slice (some ⟨bL, oL, none⟩) nL cL) ∧ (W.cell? ⟨bL, oL + k * 4, none⟩ = some (.string nm) ∧ W.cell? ⟨bL, oL + k * 4 + 1, none⟩ = some (.slice aU n cU) ∧ W.cell? ⟨bL, oL + k * 4 + 2, none⟩ = some (.int .i64 sz) ∧ W.cell? ⟨bL, oL + k * 4 + 3, none⟩ = some (.slice aC nc cC)) ∧ (W.cell? ⟨bT, oT + k * 3, none⟩ = some (.string s) ∧ W.cell? ⟨bT, oT + k * 3 + 1, none⟩ = some (.int .i64 t1) ∧ W.cell? ⟨bT, oT + k * 3 + 2, none⟩ = some (.int .i64 t2)))
  have hi1 : (0 : Int) ≤ (k : Int) := by omega
  have hi2 : (k : Int) < nL := by omega
  have hi3 : (k : Int) < nT := by omega
  apply wp_region_cutV (fun (i : Nat × Nat) => [(9, .pointer (some ⟨i.1, 0, none⟩)), (10, .pointer (some ⟨i.2, 0, none⟩)), (17, .pointer (some ⟨p, 0, none⟩)), (18, .pointer (some ⟨p, 0, none⟩)), (19, .pointer (some ⟨p, 2, none⟩)), (20, .slice (some ⟨bL, oL, none⟩) nL cL), (21, .int .i64 (k : Int)), (22, .pointer (some ⟨bL, oL + k * 4, none⟩)), (23, .agg #[.string nm, .slice aU n cU, .int .i64 sz, .slice aC nc cC]), (24, .pointer (some ⟨p, 0, none⟩)), (25, .pointer (some ⟨p, 0, none⟩)), (26, .pointer (some ⟨p, 1, none⟩)), (27, .slice (some ⟨bT, oT, none⟩) nT cT), (28, .int .i64 (k : Int)), (29, .pointer (some ⟨bT, oT + k * 3, none⟩)), (30, .agg #[.string s, .int .i64 t1, .int .i64 t2])])
    (fun i W => Bx2 w φ φ1 (w.heap.size + 1 + 1) i.1 (.cells #[.string nm, .slice aU n cU, .int .i64 sz, .slice aC nc cC] 137) i.2 (.cells #[.string s, .int .i64 t1, .int .i64 t2] 73) W)
  case h1 =>
    intro KK hKK
    go_region_held3 (fun W => W.cell? ⟨p, 1, none⟩ = some (.slice (some ⟨bT, oT, none⟩) nT cT) ∧ W.cell? ⟨p, 2, none⟩ = some (.slice (some ⟨bL, oL, none⟩) nL cL) ∧ (W.cell? ⟨bL, oL + k * 4, none⟩ = some (.string nm) ∧ W.cell? ⟨bL, oL + k * 4 + 1, none⟩ = some (.slice aU n cU) ∧ W.cell? ⟨bL, oL + k * 4 + 2, none⟩ = some (.int .i64 sz) ∧ W.cell? ⟨bL, oL + k * 4 + 3, none⟩ = some (.slice aC nc cC)) ∧ (W.cell? ⟨bT, oT + k * 3, none⟩ = some (.string s) ∧ W.cell? ⟨bT, oT + k * 3 + 1, none⟩ = some (.int .i64 t1) ∧ W.cell? ⟨bT, oT + k * 3 + 2, none⟩ = some (.int .i64 t2))) (first | with_reducible exact hS9 _ hF0 | ((with_reducible refine hS9 _ ?_); repeat (first | with_reducible exact hF0 | with_reducible exact hF1 | (with_reducible refine Fz.drew1 ?_) | (with_reducible refine Fz.alloc ?_ _) | (with_reducible refine Fz.setN ?_ hN (by simp) _))) | fail) (first | fail)
    all_goals
      refine onlyN_mk ?_
      have hk := fun x y W s => hKK.out (x, y) W s
      simp only [updA, List.foldl_cons, List.foldl_nil, List.setIfInBounds_toArray, List.set_cons_succ, List.set_cons_zero] at hk
      first
        | exact hk _ _ _ (Bx2.one HX0.out _ _)
        | exact hk _ _ _ (Bx2.two HX0.out _ _)
  case h2 =>
  rintro ⟨bx, bt⟩ W9 hF9
  simp only [updA, List.foldl_cons, List.foldl_nil, List.setIfInBounds_toArray, List.set_cons_succ, List.set_cons_zero]
  obtain ⟨φ2, hX2, hle2, hbx, hbt⟩ := hF9
  have HX2 : Hid (J9 w φ (w.heap.size + 1 + 1) #[.string ⟨#[]⟩, .string ⟨#[]⟩] φ2 none W9) := Lib.hid ⟨hX2, fun x hx => by cases hx⟩
  have L2 := Lib.hid hle2
  have LR : Hid (φ2.le φ2) := Lib.hid φ2.le_refl
  have HBX := Lib.hid hbx
  have hfc := Lib.hid (fun (ψ : Phi) (W : World) (hl : Hid (φ2.le ψ)) (hf : Fz ψ W) => (⟨⟨(hf.blk (hl.out _ _ hbx)).cell 0, (hf.blk (hl.out _ _ hbx)).cell 1, (hf.blk (hl.out _ _ hbx)).cell 2, (hf.blk (hl.out _ _ hbx)).cell 3⟩, ⟨(hf.blk (hl.out _ _ hbt)).cell 0, (hf.blk (hl.out _ _ hbt)).cell 1, (hf.blk (hl.out _ _ hbt)).cell 2⟩, ⟨(hf.blk (hl.out _ _ (hle2 _ _ HB0.out))).cell 0, (hf.blk (hl.out _ _ (hle2 _ _ HB0.out))).cell 1, (hf.blk (hl.out _ _ (hle2 _ _ HB0.out))).cell 2, (hf.blk (hl.out _ _ (hle2 _ _ HB0.out))).cell 3⟩, ⟨(hf.blk (hl.out _ _ (hle2 _ _ HB1.out))).cell 0, (hf.blk (hl.out _ _ (hle2 _ _ HB1.out))).cell 1, (hf.blk (hl.out _ _ (hle2 _ _ HB1.out))).cell 2, (hf.blk (hl.out _ _ (hle2 _ _ HB1.out))).cell 3⟩, (hf.blk (hl.out _ _ (hle2 _ _ PL.out.box))).cell 0⟩ :
    (W.cell? ⟨bx, 0, none⟩ = some (.string nm) ∧ W.cell? ⟨bx, 1, none⟩ = some (.slice aU n cU) ∧ W.cell? ⟨bx, 2, none⟩ = some (.int .i64 sz) ∧ W.cell? ⟨bx, 3, none⟩ = some (.slice aC nc cC)) ∧ (W.cell? ⟨bt, 0, none⟩ = some (.string s) ∧ W.cell? ⟨bt, 1, none⟩ = some (.int .i64 t1) ∧ W.cell? ⟨bt, 2, none⟩ = some (.int .i64 t2)) ∧ (W.cell? ⟨w.heap.size, 0, none⟩ = some (.int .i64 u1) ∧ W.cell? ⟨w.heap.size, 1, none⟩ = some (.string u2) ∧ W.cell? ⟨w.heap.size, 2, none⟩ = some (.int .i64 u3) ∧ W.cell? ⟨w.heap.size, 3, none⟩ = some (.int .i64 u4)) ∧ (W.cell? ⟨w.heap.size + 1, 0, none⟩ = some (.int .i64 v1) ∧ W.cell? ⟨w.heap.size + 1, 1, none⟩ = some (.string v2) ∧ W.cell? ⟨w.heap.size + 1, 2, none⟩ = some (.int .i64 v3) ∧ W.cell? ⟨w.heap.size + 1, 3, none⟩ = some (.int .i64 v4)) ∧ W.cell? ⟨p, 0, none⟩ = some (.int .i64 kind)))
  have hbr : Hid (w.heap.size + 1 + 1 ≠ bx ∧ w.heap.size + 1 + 1 ≠ bt) := Lib.hid ⟨(fun e => by have := hX2.f; rw [e, hbx] at this; cases this), (fun e => by have := hX2.f; rw [e, hbt] at this; cases this)⟩
  have HP2 := Lib.hid (HP.out.mono hle2)
  have SU2 := Lib.hid (SU.out.mono hle2)
  have SC2 := Lib.hid (SC.out.mono hle2)
  clear hX2 hle2 hbx hbt HX0 hXd hN hF0 hF1 hS9 hbox hi1 hi2 hi3 SU SC
  obtain ⟨⟨x0, x1, x2, x3⟩, ⟨y0, y1, y2⟩, ⟨z0, z1, z2, z3⟩, ⟨z4, z5, z6, z7⟩, v0⟩ := hfc.out φ2 W9 LR HX2.out.r.inv.fz
  have hszb := szU_bd hok.out
  rw [hsz.out, hn.out] at hszb
  have hlo := ht.out.lo
  have hhi := ht.out.hi
  rw [hn.out] at hhi
  dsimp only at hlo hhi
  have hn2 : 2 ≤ n := by
    rw [← hn.out]
    exact two_le hu.out hv.out (fun e => hne.out (congrArg (·.1) e))
  obtain ⟨r0, r1, r2, r3⟩ := J9.rf HX2
  rcases hk with rfl | rfl | rfl
  · have hr2 : Hid (shtT (((t1 * (t1 - 1) : Int) : Rat) / ((((n : Int) * ((n : Int) - 1) : Int)) : Rat)) = (S, T)) := Lib.hid (by rw [← hn.out]; exact hr.out)
    have hb := Lib.hid (show 0 ≤ t1 ∧ t1 ≤ 5000 ∧ 2 ≤ (n : Int) ∧ (n : Int) ≤ 5000 by omega)
    clear r0 r1 r2 r3
    go_wp2_with (go_at_call 102; (with_reducible refine (pair_J hM HX2 LR HP2 hb.out hr2).mono ?_); rintro e w3 ⟨rfl, HZ⟩; obtain ⟨r0, r1, r2, r3⟩ := J9.rf HZ)
    have hZ := Lib.hid (J9.fin HZ (.string S) (.string T))
    have e0 : _ = some (Value.string S) := hZ.out.k.cell 0
    have e1 : _ = some (Value.string T) := hZ.out.k.cell 1
    (try simp only [Exit.inBlock, Exit.then])
    refine bodyPost_ret (v := .agg #[.string S, .string T]) (by simp [results, Tryz.results43, go_sem, e0, e1]) rfl ?_
    exact ⟨rfl, hZ.out.inv.bel⟩
  · have hS := sy_ok (by decide) ht.out hn.out (show 0 < n by omega) hl hok.out
    obtain ⟨zs, hzs⟩ : ∃ zs, Hid (szL us = zs) := ⟨_, Lib.hid rfl⟩
    have hzl : Hid (zs.length = n) := Lib.hid (by rw [← hzs.out, ← hn.out]; exact List.length_map _)
    have HS : Hid (SyOk zs n t1 sz) := Lib.hid (by
      have e : elmL 2 us = zs := hzs.out
      rw [e, hzl.out, hsz.out] at hS
      exact hS)
    obtain ⟨vu, hvu⟩ := fnd_ex (fun i => (us.getD i unt0).1 = u1) n
    obtain ⟨vv, hvv⟩ := fnd_ex (fun i => (us.getD i unt0).1 = v1) n
    obtain ⟨q1, q2, _⟩ := fnd_idx (f := fun x : Unt => x.1) hn.out ⟨_, hu.out, rfl⟩ hvu
    obtain ⟨q3, q4, _⟩ := fnd_idx (f := fun x : Unt => x.1) hn.out ⟨_, hv.out, rfl⟩ hvv
    obtain ⟨iu, hiu⟩ : ∃ i, iU us u1 = i := ⟨_, rfl⟩
    obtain ⟨iv, hiv⟩ : ∃ i, iU us v1 = i := ⟨_, rfl⟩
    have q5 : vu = (iu : Int) := by rw [← hiu]; exact q1
    have q6 : vv = (iv : Int) := by rw [← hiv]; exact q3
    have q7 : iu < n := by rw [← hiu]; exact q2
    have q8 : iv < n := by rw [← hiv]; exact q4
    subst q5 q6
    have HVU := Lib.hid hvu
    have HVV := Lib.hid hvv
    obtain ⟨R, hR⟩ : ∃ R, Hid (bthI zs t1 iu iv = R) := ⟨_, Lib.hid rfl⟩
    have hRb := HS.out.bd q7 q8
    rw [hR.out] at hRb
    have hb := Lib.hid (show 0 ≤ R ∧ R ≤ 100000000000000 ∧ 0 < sz ∧ sz ≤ 100000000000000 by omega)
    have hr2 : Hid (shtT ((R : Rat) / ((sz : Int) : Rat)) = (S, T)) := Lib.hid (by rw [← hR.out, ← hzs.out, ← hiu, ← hiv, ← hsz.out]; exact hr.out)
    clear hvu hvv q1 q2 q3 q4 hiu hiv hS hRb hr r0 r1 r2 r3
    go_upto_region 7 with (fail)
    have HXd : Hid (J9 w φ (w.heap.size + 1 + 1) #[.string ⟨#[]⟩, .string ⟨#[]⟩] φ2 none W9.drew) := Lib.hid (HX2.out.callB (bdrewN (Below.refl _ W9) 1))
    have hS7 := fun (ψ : Phi) (W : World) (hl : Hid (φ2.le ψ)) (hf : Fz ψ W) => (⟨(hfc.out ψ W hl hf).1.2.1, (hfc.out ψ W hl hf).1.2.2.1, (hfc.out ψ W hl hf).2.1.2.1, (hfc.out ψ W hl hf).2.2.1, (hfc.out ψ W hl hf).2.2.2.1⟩ : W.cell? ⟨bx, 1, none⟩ = some (.slice aU n cU) ∧ W.cell? ⟨bx, 2, none⟩ = some (.int .i64 sz) ∧ W.cell? ⟨bt, 1, none⟩ = some (.int .i64 t1) ∧ (W.cell? ⟨w.heap.size, 0, none⟩ = some (.int .i64 u1) ∧ W.cell? ⟨w.heap.size, 1, none⟩ = some (.string u2) ∧ W.cell? ⟨w.heap.size, 2, none⟩ = some (.int .i64 u3) ∧ W.cell? ⟨w.heap.size, 3, none⟩ = some (.int .i64 u4)) ∧ (W.cell? ⟨w.heap.size + 1, 0, none⟩ = some (.int .i64 v1) ∧ W.cell? ⟨w.heap.size + 1, 1, none⟩ = some (.string v2) ∧ W.cell? ⟨w.heap.size + 1, 2, none⟩ = some (.int .i64 v3) ∧ W.cell? ⟨w.heap.size + 1, 3, none⟩ = some (.int .i64 v4)))
    clear x0 x1 x2 x3 y0 y1 y2 z0 z1 z2 z3 z4 z5 z6 z7 v0
    go_region_held3 (fun W => W.cell? ⟨bx, 1, none⟩ = some (.slice aU n cU) ∧ W.cell? ⟨bx, 2, none⟩ = some (.int .i64 sz) ∧ W.cell? ⟨bt, 1, none⟩ = some (.int .i64 t1) ∧ (W.cell? ⟨w.heap.size, 0, none⟩ = some (.int .i64 u1) ∧ W.cell? ⟨w.heap.size, 1, none⟩ = some (.string u2) ∧ W.cell? ⟨w.heap.size, 2, none⟩ = some (.int .i64 u3) ∧ W.cell? ⟨w.heap.size, 3, none⟩ = some (.int .i64 u4)) ∧ (W.cell? ⟨w.heap.size + 1, 0, none⟩ = some (.int .i64 v1) ∧ W.cell? ⟨w.heap.size + 1, 1, none⟩ = some (.string v2) ∧ W.cell? ⟨w.heap.size + 1, 2, none⟩ = some (.int .i64 v3) ∧ W.cell? ⟨w.heap.size + 1, 3, none⟩ = some (.int .i64 v4))) (first | with_reducible exact hS7 _ _ LR HXd.out.r.inv.fz | with_reducible exact hS7 _ _ LZ (J9.fin HZ _ _).inv.fz | with_reducible exact hS7 _ _ (by with_reducible assumption) (by with_reducible assumption) | fail) (first
      | (go_at_call 106; (with_reducible refine (sizes_J (by with_reducible assumption) (by with_reducible assumption) SU2 hn hl hzs hzl).mono ?_); rintro e wA ⟨aA, cA, φA, rfl, HA, LA, SA⟩; have FA : Fz φA wA := HA.out.r.inv.fz)
      | (go_at_call 103; (first
          | ((with_reducible refine (at_J (by with_reducible assumption) (by with_reducible assumption) HBX SU2 hn HVU).mono ?_); rintro e wB ⟨rfl, HB⟩; have FB := HB.out.r.inv.fz)
          | ((with_reducible refine (at_J (by with_reducible assumption) (by with_reducible assumption) HBX SU2 hn HVV).mono ?_); rintro e wB ⟨rfl, HB⟩; have FB := HB.out.r.inv.fz)))
      | (go_at_call 105; (with_reducible refine (both_J (by with_reducible assumption) SA HS q7 q8 hR).mono ?_); rintro e wC ⟨rfl, HC⟩; have FC := HC.out.r.inv.fz)
      | (go_at_call 53; (with_reducible refine (frac_J hM HC LA HP2 hb.out hr2).mono ?_); rintro e wZ ⟨rfl, HZ⟩; have LZ := LA; obtain ⟨r0, r1, r2, r3⟩ := J9.rf HZ; have FZ := HZ.out.r.inv.fz)
      | fail)
    all_goals
      go_wp2
      have hZ := Lib.hid (J9.fin HZ (.string S) (.string T))
      have e0 : _ = some (Value.string S) := hZ.out.k.cell 0
      have e1 : _ = some (Value.string T) := hZ.out.k.cell 1
      (try simp only [Exit.inBlock, Exit.then])
      refine bodyPost_ret (v := .agg #[.string S, .string T]) (by simp [results, Tryz.results43, go_sem, e0, e1]) rfl ?_
      exact ⟨rfl, hZ.out.inv.bel⟩
  · obtain ⟨cs, hcs⟩ : ∃ cs, Hid ((cnsL us).map (cluF us) = cs) := ⟨_, Lib.hid rfl⟩
    have hcl : Hid (cs.length = nc) := Lib.hid (by rw [← hcs.out, List.length_map, hnc.out])
    rw [hcs.out] at SC2
    have hcu := clu_at (u := (u1, u2, u3, u4)) hcs.out hcl.out hu.out
    have hcv := clu_at (u := (v1, v2, v3, v4)) hcs.out hcl.out hv.out
    obtain ⟨x, hx, hxn, hxe, hxf⟩ := hcu
    obtain ⟨y, hy, hyn, hye, hyf⟩ := hcv
    dsimp only at hx hy hxe hye hxf hyf
    have HVU := Lib.hid hxf
    have HVV := Lib.hid hyf
    obtain ⟨bC, oC, rfl, f⟩ := SC2.out.cluD hcl hxn
    obtain ⟨aV, cV, sV, f1⟩ := f x hxn
    obtain ⟨aV', cV', sV', f2⟩ := f y hyn
    rw [hxe] at f1 sV
    rw [hye] at f2 sV'
    dsimp only at f1 f2
    have hmu : (u1, u2, u3, u4) ∈ clU us u3 := List.mem_filter.2 ⟨hu.out, by simp⟩
    have hmv : (v1, v2, v3, v4) ∈ clU us v3 := List.mem_filter.2 ⟨hv.out, by simp⟩
    have hz1 := szU_bd (l := clU us u3) (fun u hu => hok.out u (clU_mem hu))
    have hz2 := clU_len us u3
    have hz2' := clU_len us v3
    have hz3 : 0 < (clU us u3).length := List.length_pos_of_mem hmu
    have hz3' : 0 < (clU us v3).length := List.length_pos_of_mem hmv
    have hst := ht.out.st rfl
    have hst2 := hst.2 u3 (mem_cnsL.2 ⟨_, hu.out, rfl⟩)
    have hst2' := hst.2 v3 (mem_cnsL.2 ⟨_, hv.out, rfl⟩)
    have hdd : Hid (u3 = v3 → 2 ≤ (clU us u3).length) := Lib.hid (fun e => two_le hmu (show (v1, v2, v3, v4) ∈ clU us u3 by rw [e]; exact hmv) (fun e => hne.out (congrArg (·.1) e)))
    have hsy := sy_ok (by decide) ht.out hn.out (show 0 < n by omega) hl hok.out
    have hr6 := hr.out
    unfold jnR at hr6
    rw [if_neg (by decide), if_neg (by decide)] at hr6
    dsimp only at hr6
    rw [hsz.out, hx, hy] at hr6
    have HR6 := Lib.hid hr6
    rw [hn.out] at hz2 hz2'
    have zz : Hid (csL us = cs.map (fun x => x.2.1)) := Lib.hid (by rw [← hcs.out, csL_map])
    have hxf1 : Hid ((cs.getD x clu0).1 = u3) := Lib.hid (by rw [hxe])
    have hyf1 : Hid ((cs.getD y clu0).1 = v3) := Lib.hid (by rw [hye])
    clear hr6 sV sV' hmu hmv f hxe hye hxf hyf
    generalize szU (clU us u3) = cz at *
    generalize (clU us u3).length = nv at *
    generalize (clU us v3).length = nw at *
    dsimp only at hst hst2 hst2'
    have hst0 := hst.1
    have FC := Lib.hid (fun (W : World) (hf : Fz φ2 W) => (⟨(f1 W hf).2.2.1, (f1 W hf).2.2.2, (f2 W hf).2.2.2⟩ : W.cell? ⟨bC, oC + x * 3 + 1, none⟩ = some (.int .i64 cz) ∧ W.cell? ⟨bC, oC + x * 3 + 2, none⟩ = some (.slice aV nv cV) ∧ W.cell? ⟨bC, oC + y * 3 + 2, none⟩ = some (.slice aV' nw cV')))
    have hbb := (f1 W9 HX2.out.r.inv.fz).1
    clear f1 f2 r0 r1 r2 r3 hst
    have HXd : Hid (J9 w φ (w.heap.size + 1 + 1) #[.string ⟨#[]⟩, .string ⟨#[]⟩] φ2 none W9.drew) := Lib.hid (HX2.out.callB (bdrewN (Below.refl _ W9) 1))
    have hS8 := fun (ψ : Phi) (W : World) (hf : Fz ψ W) (hl : Hid (φ2.le ψ)) => (⟨(hfc.out ψ W hl hf).1, (hfc.out ψ W hl hf).2.2.1, (hfc.out ψ W hl hf).2.2.2.1⟩ : (W.cell? ⟨bx, 0, none⟩ = some (.string nm) ∧ W.cell? ⟨bx, 1, none⟩ = some (.slice aU n cU) ∧ W.cell? ⟨bx, 2, none⟩ = some (.int .i64 sz) ∧ W.cell? ⟨bx, 3, none⟩ = some (.slice (some ⟨bC, oC, none⟩) nc cC)) ∧ (W.cell? ⟨w.heap.size, 0, none⟩ = some (.int .i64 u1) ∧ W.cell? ⟨w.heap.size, 1, none⟩ = some (.string u2) ∧ W.cell? ⟨w.heap.size, 2, none⟩ = some (.int .i64 u3) ∧ W.cell? ⟨w.heap.size, 3, none⟩ = some (.int .i64 u4)) ∧ (W.cell? ⟨w.heap.size + 1, 0, none⟩ = some (.int .i64 v1) ∧ W.cell? ⟨w.heap.size + 1, 1, none⟩ = some (.string v2) ∧ W.cell? ⟨w.heap.size + 1, 2, none⟩ = some (.int .i64 v3) ∧ W.cell? ⟨w.heap.size + 1, 3, none⟩ = some (.int .i64 v4)))
    go_upto_region 8 with (fail)
    clear x0 x1 x2 x3 y0 y1 y2 z0 z1 z2 z3 z4 z5 z6 z7 v0
    apply wp_region_cutV (fun (_ : PUnit) => [(61, .agg #[.string nm, .slice aU n cU, .int .i64 sz, .slice (some ⟨bC, oC, none⟩) nc cC]), (62, .agg #[.int .i64 u1, .string u2, .int .i64 u3, .int .i64 u4]), (63, .int .i64 (x : Int)), (64, .agg #[.string nm, .slice aU n cU, .int .i64 sz, .slice (some ⟨bC, oC, none⟩) nc cC]), (65, .agg #[.int .i64 v1, .string v2, .int .i64 v3, .int .i64 v4]), (66, .int .i64 (y : Int)), (12, .int .i64 (x : Int)), (13, .int .i64 (y : Int))])
      (fun _ W => Hid (J9 w φ (w.heap.size + 1 + 1) #[.string ⟨#[]⟩, .string ⟨#[]⟩] φ2 none W))
    case h1 =>
      intro KK hKK
      go_region_held3 (fun W => (W.cell? ⟨bx, 0, none⟩ = some (.string nm) ∧ W.cell? ⟨bx, 1, none⟩ = some (.slice aU n cU) ∧ W.cell? ⟨bx, 2, none⟩ = some (.int .i64 sz) ∧ W.cell? ⟨bx, 3, none⟩ = some (.slice (some ⟨bC, oC, none⟩) nc cC)) ∧ (W.cell? ⟨w.heap.size, 0, none⟩ = some (.int .i64 u1) ∧ W.cell? ⟨w.heap.size, 1, none⟩ = some (.string u2) ∧ W.cell? ⟨w.heap.size, 2, none⟩ = some (.int .i64 u3) ∧ W.cell? ⟨w.heap.size, 3, none⟩ = some (.int .i64 u4)) ∧ (W.cell? ⟨w.heap.size + 1, 0, none⟩ = some (.int .i64 v1) ∧ W.cell? ⟨w.heap.size + 1, 1, none⟩ = some (.string v2) ∧ W.cell? ⟨w.heap.size + 1, 2, none⟩ = some (.int .i64 v3) ∧ W.cell? ⟨w.heap.size + 1, 3, none⟩ = some (.int .i64 v4))) (first | with_reducible exact hS8 _ _ HXd.out.r.inv.fz LR | with_reducible exact hS8 _ _ (by with_reducible assumption) LR | fail) (first
        | (go_at_call 87; (first
            | ((with_reducible refine (cluster_J (by with_reducible assumption) LR SC2 hcl HVU).mono ?_); rintro e wB ⟨rfl, HB⟩; have FB : Fz φ2 wB := HB.out.r.inv.fz)
            | ((with_reducible refine (cluster_J (by with_reducible assumption) LR SC2 hcl HVV).mono ?_); rintro e wB ⟨rfl, HB⟩; have FB : Fz φ2 wB := HB.out.r.inv.fz)))
        | fail)
      all_goals
        refine onlyN_mk ?_
        have hk := fun W s => hKK.out PUnit.unit W s
        simp only [updA, List.foldl_cons, List.foldl_nil, List.setIfInBounds_toArray, List.set_cons_succ, List.set_cons_zero] at hk
        exact hk _ HB
    case h2 =>
    intro _ W10 HX10
    simp only [updA, List.foldl_cons, List.foldl_nil, List.setIfInBounds_toArray, List.set_cons_succ, List.set_cons_zero]
    clear HXd hS8 HX2 hbb
    obtain ⟨⟨x0, x1, x2, x3⟩, _⟩ := hfc.out φ2 W10 LR HX10.out.r.inv.fz
    obtain ⟨q1, q2, q3⟩ := FC.out W10 HX10.out.r.inv.fz
    have i1 : (0 : Int) ≤ (x : Int) := by omega
    have i2 : (x : Int) < nc := by omega
    have i3 : (0 : Int) ≤ (y : Int) := by omega
    have i4 : (y : Int) < nc := by omega
    go_upto_region 9 with (fail)
    go_quiet (fail)
    have HX11 : Hid (J9 w φ (w.heap.size + 1 + 1) #[.string ⟨#[]⟩, .string ⟨#[]⟩] φ2 none (W10.drewN nq)) := Lib.hid (HX10.out.callB (bdrewN (Below.refl _ W10) nq))
    clear x0 x1 x2 x3 q1 q2 q3 HX10
    generalize W10.drewN nq = W11 at *
    have hmu2 : 0 ≤ t1 * cz ∧ t1 * cz ≤ 25000000000000 := ⟨Int.mul_nonneg hlo (by omega), Int.le_trans (Int.mul_le_mul (show t1 ≤ 5000 by omega) (show cz ≤ 5000000000 by omega) (by omega) (by decide)) (by decide)⟩
    have hw : IntKind.i64.wrap (t1 * cz) = t1 * cz := IntWalk.i64_in _ (by omega)
    have HXd : Hid (J9 w φ (w.heap.size + 1 + 1) #[.string ⟨#[]⟩, .string ⟨#[]⟩] φ2 none W11.drew) := Lib.hid (HX11.out.callB (bdrewN (Below.refl _ W11) 1))
    by_cases hc : u3 = v3
    · have hxy : x = y := by rw [← hx, ← hy, hc]
      subst hxy
      have hxyb : ((x : Int) == (x : Int)) = true := by simp
      have hnv2 := hdd.out hc
      have hr6 := HR6.out
      rw [if_pos hc] at hr6
      have hr2 := Lib.hid hr6
      obtain ⟨⟨S1, T1⟩, hr3⟩ : ∃ r : Rti, Hid (shtT (((t1 * cz : Int) : Rat) / ((sz : Int) : Rat)) = r) := ⟨_, Lib.hid rfl⟩
      obtain ⟨⟨S2, T2⟩, hr4⟩ : ∃ r : Rti, Hid (shtT (((t2 * (t2 - 1) : Int) : Rat) / (((((nv : Int)) * ((nv : Int) - 1) : Int)) : Rat)) = r) := ⟨_, Lib.hid rfl⟩
      have hb1 := Lib.hid (show 0 ≤ t1 * cz ∧ t1 * cz ≤ 100000000000000 ∧ 0 < sz ∧ sz ≤ 100000000000000 by omega)
      have hb2 := Lib.hid (show 0 ≤ t2 ∧ t2 ≤ 5000 ∧ 2 ≤ (nv : Int) ∧ (nv : Int) ≤ 5000 by omega)
      have p1 : 0 ≤ t2 * (t2 - 1) ∧ t2 * (t2 - 1) ≤ 25000000 := ⟨Int.mul_nonneg (by omega) (by omega), Int.le_trans (Int.mul_le_mul (show t2 ≤ 5000 by omega) (show t2 - 1 ≤ 5000 by omega) (by omega) (by decide)) (by decide)⟩
      have p2 : 0 < (nv : Int) * ((nv : Int) - 1) ∧ (nv : Int) * ((nv : Int) - 1) ≤ 25000000 := ⟨Int.mul_pos (by omega) (by omega), Int.le_trans (Int.mul_le_mul (show (nv : Int) ≤ 5000 by omega) (show (nv : Int) - 1 ≤ 5000 by omega) (by omega) (by decide)) (by decide)⟩
      have Q1 := Lib.hid (QuF.of (a := t1 * cz) (b := sz) (by omega) (by omega) (by omega))
      have Q2 := Lib.hid (QuF.of (a := t2 * (t2 - 1)) (b := (nv : Int) * ((nv : Int) - 1)) (by omega) (by omega) (by omega))
      have Q3 : Hid (QuF (((t1 * cz : Int) : Rat) / ((sz : Int) : Rat) * (((t2 * (t2 - 1) : Int) : Rat) / (((((nv : Int)) * ((nv : Int) - 1) : Int)) : Rat)))) := Lib.hid ⟨_, _, (Qu.of (a := t1 * cz) (b := sz) (A := 100000000000000) (B := 100000000000000) (by omega) (by omega) (by omega)).mul (Qu.of (a := t2 * (t2 - 1)) (b := (nv : Int) * ((nv : Int) - 1)) (A := 100000000000000) (B := 100000000000000) (by omega) (by omega) (by omega)), by decide, by decide⟩
      have hS11 := fun (W : World) (hf : Fz φ2 W) => (⟨(hfc.out φ2 W LR hf).2.1.2.1, (hfc.out φ2 W LR hf).2.1.2.2, (hfc.out φ2 W LR hf).1.2.2.1, (hfc.out φ2 W LR hf).1.2.2.2, (FC.out W hf).1⟩ : W.cell? ⟨bt, 1, none⟩ = some (.int .i64 t1) ∧ W.cell? ⟨bt, 2, none⟩ = some (.int .i64 t2) ∧ W.cell? ⟨bx, 2, none⟩ = some (.int .i64 sz) ∧ W.cell? ⟨bx, 3, none⟩ = some (.slice (some ⟨bC, oC, none⟩) nc cC) ∧ W.cell? ⟨bC, oC + x * 3 + 1, none⟩ = some (.int .i64 cz))
      clear p1 p2 hr6 hmu2 hst2 hst2' hz1 hz2 hz2' hz3 hz3' hszb hlo hhi hc hst0 hnv2
      go_upto_region 11 with (fail)
      go_region_held3 (fun W => W.cell? ⟨bt, 1, none⟩ = some (.int .i64 t1) ∧ W.cell? ⟨bt, 2, none⟩ = some (.int .i64 t2) ∧ W.cell? ⟨bx, 2, none⟩ = some (.int .i64 sz) ∧ W.cell? ⟨bx, 3, none⟩ = some (.slice (some ⟨bC, oC, none⟩) nc cC) ∧ W.cell? ⟨bC, oC + x * 3 + 1, none⟩ = some (.int .i64 cz)) (first | with_reducible exact hS11 _ HXd.out.r.inv.fz | with_reducible exact hS11 _ (J9.fin HZ _ _).inv.fz | with_reducible exact hS11 _ (by with_reducible assumption) | fail) (first
        | (go_at_call 53; (with_reducible refine (frac_J hM (by with_reducible assumption) LR HP2 hb1.out hr3).mono ?_); rintro e wB ⟨rfl, HB⟩; have FB : Fz φ2 wB := HB.out.r.inv.fz)
        | (go_at_call 102; (with_reducible refine (pair_J hM (by with_reducible assumption) LR HP2 hb2.out hr4).mono ?_); rintro e wB ⟨rfl, HB⟩; have FB : Fz φ2 wB := HB.out.r.inv.fz)
        | (go_at_call 42; (with_reducible refine (times_J hM (by with_reducible assumption) LR HP2 Q1 Q2 Q3 hr3 hr4 hr2).mono ?_); rintro e wZ ⟨rfl, HZ⟩; obtain ⟨r0, r1, r2, r3⟩ := J9.rf HZ; have FZ : Fz φ2 wZ := HZ.out.r.inv.fz)
        | fail)
      all_goals
        go_wp2
        have hZ := Lib.hid (J9.fin HZ (.string S) (.string T))
        have e0 : _ = some (Value.string S) := hZ.out.k.cell 0
        have e1 : _ = some (Value.string T) := hZ.out.k.cell 1
        (try simp only [Exit.inBlock, Exit.then])
        refine bodyPost_ret (v := .agg #[.string S, .string T]) (by simp [results, Tryz.results43, go_sem, e0, e1]) rfl ?_
        exact ⟨rfl, hZ.out.inv.bel⟩
    · have hxy : ¬ x = y := fun e => hc (by
        have e1 := hxf1.out
        have e2 := hyf1.out
        rw [← e] at e2
        exact e1.symm.trans e2)
      have hxyb : ((x : Int) == (y : Int)) = false := by simp; omega
      have hr6 := HR6.out
      rw [if_neg hc] at hr6
      have hr2 := hr6
      obtain ⟨zs, hzs⟩ : ∃ zs, Hid (csL us = zs) := ⟨_, Lib.hid rfl⟩
      have hcz : Hid (cs.map (fun x => x.2.1) = zs) := Lib.hid (by rw [← zz.out, hzs.out])
      have hzl : Hid (zs.length = nc) := Lib.hid (by rw [← hcz.out, List.length_map, hcl.out])
      have HS : Hid (SyOk zs nc t1 sz) := Lib.hid (by
        have e : elmL 3 us = zs := hzs.out
        rw [e, hzl.out, hsz.out] at hsy
        exact hsy)
      obtain ⟨R, hR⟩ : ∃ R, Hid (bthI zs t1 x y = R) := ⟨_, Lib.hid rfl⟩
      have hRb := HS.out.bd hxn hyn
      have hnc5 : nc ≤ 5000 := HS.out.hi
      rw [hR.out] at hRb
      rw [hzs.out, hR.out] at hr2
      have hr2 := Lib.hid hr2
      obtain ⟨⟨S1, T1⟩, hr3⟩ : ∃ r : Rti, Hid (shtT ((R : Rat) / ((sz : Int) : Rat)) = r) := ⟨_, Lib.hid rfl⟩
      obtain ⟨⟨S2, T2⟩, hr4⟩ : ∃ r : Rti, Hid (shtT ((t2 : Rat) / (((nv : Int)) : Rat)) = r) := ⟨_, Lib.hid rfl⟩
      obtain ⟨⟨S3, T3⟩, hr5⟩ : ∃ r : Rti, Hid (shtT ((t2 : Rat) / (((nw : Int)) : Rat)) = r) := ⟨_, Lib.hid rfl⟩
      obtain ⟨⟨S4, T4⟩, hr7⟩ : ∃ r : Rti, Hid (shtT ((t2 : Rat) / (((nv : Int)) : Rat) * ((t2 : Rat) / (((nw : Int)) : Rat))) = r) := ⟨_, Lib.hid rfl⟩
      have hb1 := Lib.hid (show 0 ≤ R ∧ R ≤ 100000000000000 ∧ 0 < sz ∧ sz ≤ 100000000000000 by omega)
      have hb2 := Lib.hid (show 0 ≤ t2 ∧ t2 ≤ 100000000000000 ∧ 0 < (nv : Int) ∧ (nv : Int) ≤ 100000000000000 by omega)
      have hb3 := Lib.hid (show 0 ≤ t2 ∧ t2 ≤ 100000000000000 ∧ 0 < (nw : Int) ∧ (nw : Int) ≤ 100000000000000 by omega)
      have u1' := Qu.of (a := R) (b := sz) (A := 100000000000000) (B := 100000000000000) (by omega) (by omega) (by omega)
      have u2' := Qu.of (a := t2) (b := (nv : Int)) (A := 100000000000000) (B := 100000000000000) (by omega) (by omega) (by omega)
      have u3' := Qu.of (a := t2) (b := (nw : Int)) (A := 100000000000000) (B := 100000000000000) (by omega) (by omega) (by omega)
      have Q1 : Hid (QuF ((R : Rat) / ((sz : Int) : Rat))) := Lib.hid ⟨_, _, u1', by decide, by decide⟩
      have Q2 : Hid (QuF ((t2 : Rat) / (((nv : Int)) : Rat))) := Lib.hid ⟨_, _, u2', by decide, by decide⟩
      have Q3 : Hid (QuF ((t2 : Rat) / (((nw : Int)) : Rat))) := Lib.hid ⟨_, _, u3', by decide, by decide⟩
      have Q4 : Hid (QuF ((t2 : Rat) / (((nv : Int)) : Rat) * ((t2 : Rat) / (((nw : Int)) : Rat)))) := Lib.hid ⟨_, _, u2'.mul u3', by decide, by decide⟩
      have Q5 : Hid (QuF ((R : Rat) / ((sz : Int) : Rat) * ((t2 : Rat) / (((nv : Int)) : Rat) * ((t2 : Rat) / (((nw : Int)) : Rat))))) := Lib.hid ⟨_, _, u1'.mul (u2'.mul u3'), by decide, by decide⟩
      have hS12 := fun (ψ : Phi) (W : World) (hf : Fz ψ W) (hl : Hid (φ2.le ψ)) => (⟨(hfc.out ψ W hl hf).1, (hfc.out ψ W hl hf).2.1.2.1⟩ : (W.cell? ⟨bx, 0, none⟩ = some (.string nm) ∧ W.cell? ⟨bx, 1, none⟩ = some (.slice aU n cU) ∧ W.cell? ⟨bx, 2, none⟩ = some (.int .i64 sz) ∧ W.cell? ⟨bx, 3, none⟩ = some (.slice (some ⟨bC, oC, none⟩) nc cC)) ∧ W.cell? ⟨bt, 1, none⟩ = some (.int .i64 t1))
      clear hr6 hmu2 hst2 hst2' hz1 hz2 hz2' hz3 hz3' hszb hlo hhi hst0 hRb u1' u2' u3' hsy
      go_upto_region 12 with (fail)
      clear hxy hxyb
      apply wp_region_cutV (fun (i : Nat × Option Addr × Nat) => [(101, .agg #[.string nm, .slice aU n cU, .int .i64 sz, .slice (some ⟨bC, oC, none⟩) nc cC]), (102, .slice i.2.1 nc i.2.2), (103, .pointer (some ⟨bt, 1, none⟩)), (104, .int .i64 t1), (105, .int .i64 (x : Int)), (106, .int .i64 (y : Int)), (107, .int .i64 R), (108, .pointer (some ⟨bx, 2, none⟩)), (109, .int .i64 sz), (110, .agg #[.string S1, .string T1]), (16, .pointer (some ⟨i.1, 0, none⟩))])
        (fun i W => ∃ ψ, Hid (φ2.le ψ) ∧ Hid (J9 w φ (w.heap.size + 1 + 1) #[.string S1, .string T1] ψ (some i.1) W))
      case h1 =>
        intro KK hKK
        go_region_held3 (fun W => (W.cell? ⟨bx, 0, none⟩ = some (.string nm) ∧ W.cell? ⟨bx, 1, none⟩ = some (.slice aU n cU) ∧ W.cell? ⟨bx, 2, none⟩ = some (.int .i64 sz) ∧ W.cell? ⟨bx, 3, none⟩ = some (.slice (some ⟨bC, oC, none⟩) nc cC)) ∧ W.cell? ⟨bt, 1, none⟩ = some (.int .i64 t1)) (first | with_reducible exact hS12 _ _ HXd.out.r.inv.fz LR | with_reducible exact hS12 _ _ (J9.alD HX11).out.r.inv.fz LR | with_reducible exact hS12 _ _ (J9.put HZ _ _).r.inv.fz LA | with_reducible exact hS12 _ _ (by with_reducible assumption) LA | with_reducible exact hS12 _ _ (Fz.alloc (by with_reducible assumption) _) LA | fail) (first
          | (go_at_call 107; (with_reducible refine (csizes_J (by first | with_reducible assumption | with_reducible exact J9.al (by with_reducible assumption) | with_reducible exact J9.alD HX11) LR SC2 hcl hnc5 hcz hzl).mono ?_); rintro e wA ⟨aA, cA, φA, rfl, HA, LA, SA⟩; have FA : Fz φA wA := HA.out.r.inv.fz; (try (obtain ⟨f0, f1, f2, f3⟩ := J9.facts HA)))
          | (go_at_call 105; (with_reducible refine (both_J (by first | with_reducible assumption | with_reducible exact J9.al (by with_reducible assumption)) SA HS hxn hyn hR).mono ?_); rintro e wB ⟨rfl, HB⟩; have FB : Fz φA wB := HB.out.r.inv.fz; (try (obtain ⟨f0, f1, f2, f3⟩ := J9.facts HB)))
          | (go_at_call 53; (with_reducible refine (frac_J hM (by first | with_reducible assumption | with_reducible exact J9.al (by with_reducible assumption)) LA HP2 hb1.out hr3).mono ?_); rintro e wZ ⟨rfl, HZ⟩; have FZ : Fz φA wZ := HZ.out.r.inv.fz; (try (obtain ⟨f0, f1, f2, f3⟩ := J9.facts HZ)))
          | fail)
        all_goals
          refine onlyN_mk ?_
          have hk := fun b a c W s => hKK.out (b, a, c) W s
          simp only [updA, List.foldl_cons, List.foldl_nil, List.setIfInBounds_toArray, List.set_cons_succ, List.set_cons_zero] at hk
          first
            | exact hk _ _ _ _ ⟨φA, LA, Lib.hid (J9.put HZ _ _)⟩
            | exact hk _ _ _ _ ⟨φA, LA, Lib.hid (J9.putNew HZ _ _)⟩
      case h2 =>
      rintro ⟨b16, aA, cA⟩ W12 ⟨φA, LA, HX12⟩
      simp only [updA, List.foldl_cons, List.foldl_nil, List.setIfInBounds_toArray, List.set_cons_succ, List.set_cons_zero]
      have HXe : Hid (J9 w φ (w.heap.size + 1 + 1) #[.string S1, .string T1] φA (some b16) W12.drew) := Lib.hid (HX12.out.callB (bdrewN (Below.refl _ W12) 1))
      clear HXd HX11 hS12
      have hn1 : w.heap.size + 1 + 1 ≠ bt := hbr.out.2
      have hn3 : w.heap.size + 1 + 1 ≠ b16 := fun e => (HX12.out.o b16 rfl).2 e.symm
      have hS13 := fun (W : World) (h : Hid (J9 w φ (w.heap.size + 1 + 1) #[.string S1, .string T1] φA (some b16) W)) => (⟨(hfc.out φA W LA h.out.r.inv.fz).2.1.2.2, (h.out.o b16 rfl).1.k.cell 0, (h.out.o b16 rfl).1.k.cell 1⟩ : W.cell? ⟨bt, 2, none⟩ = some (.int .i64 t2) ∧ W.cell? ⟨b16, 0, none⟩ = some (.string S1) ∧ W.cell? ⟨b16, 1, none⟩ = some (.string T1))
      go_upto_region 13 with (fail)
      go_region_held3 (fun W => W.cell? ⟨bt, 2, none⟩ = some (.int .i64 t2) ∧ W.cell? ⟨b16, 0, none⟩ = some (.string S1) ∧ W.cell? ⟨b16, 1, none⟩ = some (.string T1)) (first | with_reducible exact hS13 _ (by with_reducible assumption) | (obtain ⟨m0, m1, m2⟩ := hS13 _ HZ; with_reducible exact ⟨keepT m0 hn1, keepT m1 hn3, keepT m2 hn3⟩) | fail) (first
        | (go_at_call 53; (first
            | ((with_reducible refine (frac_J hM (by with_reducible assumption) LA HP2 hb2.out hr4).mono ?_); rintro e wB ⟨rfl, HB⟩)
            | ((with_reducible refine (frac_J hM (by with_reducible assumption) LA HP2 hb3.out hr5).mono ?_); rintro e wB ⟨rfl, HB⟩)))
        | (go_at_call 42; (first
            | ((with_reducible refine (times_J hM (by with_reducible assumption) LA HP2 Q2 Q3 Q4 hr4 hr5 hr7).mono ?_); rintro e wB ⟨rfl, HB⟩)
            | ((with_reducible refine (times_J hM (by with_reducible assumption) LA HP2 Q1 Q4 Q5 hr3 hr7 hr2).mono ?_); rintro e wZ ⟨rfl, HZ⟩; obtain ⟨r0, r1, r2, r3⟩ := J9.rf HZ)))
        | fail)
      all_goals
        go_wp2
        have hZ := Lib.hid (J9.fin HZ (.string S) (.string T))
        have e0 : _ = some (Value.string S) := hZ.out.k.cell 0
        have e1 : _ = some (Value.string T) := hZ.out.k.cell 1
        (try simp only [Exit.inBlock, Exit.then])
        refine bodyPost_ret (v := .agg #[.string S, .string T]) (by simp [results, Tryz.results43, go_sem, e0, e1]) rfl ?_
        exact ⟨rfl, hZ.out.inv.bel⟩
end Go.Proofs.YtnlhalnjbkpdnaaGreatDoor

namespace Go.Proofs.YtnlhalnjbkpdnaaGreatDoor
open Go.RowKit Go.Sort
set_option linter.unusedVariables false
set_option linter.unusedSimpArgs false
theorem Qu.leQ {x : Rat} {A B A' B' : Nat} (h : Qu x A B) (h1 : A ≤ A') (h2 : B ≤ B') : Qu x A' B' := by
  obtain ⟨a, b, hb, e, h3, h4⟩ := h
  exact ⟨a, b, hb, e, Nat.le_trans h3 h1, Nat.le_trans h4 h2⟩
theorem ch_qu {kind : Int} (hk : kind = 1 ∨ kind = 2 ∨ kind = 3) {s : ByteArray} {t1 t2 : Int} {us : List Unt} (hl : us.length ≤ 5000) (hok : ∀ u ∈ us, 1 ≤ u.2.2.2 ∧ u.2.2.2 ≤ 1000000) (ht : TkOk kind (s, t1, t2) us) {u : Unt} (hu : u ∈ us) : Qu (chR kind (s, t1, t2) us u) (100000000000000 * 100000000000000) (100000000000000 * 100000000000000) := by
  have hlo := ht.lo
  have hhi := ht.hi
  have hszb := szU_bd hok
  have hus := hok u hu
  have hn0 : 0 < us.length := List.length_pos_of_mem hu
  dsimp only at hlo hhi
  unfold chR
  rcases hk with rfl | rfl | rfl
  · rw [if_pos rfl]; exact (Qu.of (A := 100000000000000) (B := 100000000000000) (by omega) (by dsimp only; omega) (by omega)).leQ (by decide) (by decide)
  · have hmu : 0 ≤ t1 * u.2.2.2 ∧ t1 * u.2.2.2 ≤ 5000000000 := ⟨Int.mul_nonneg hlo (by omega), Int.le_trans (Int.mul_le_mul (show t1 ≤ 5000 by omega) hus.2 (by omega) (by decide)) (by decide)⟩
    rw [if_neg (by decide), if_pos rfl]
    exact (Qu.of (A := 100000000000000) (B := 100000000000000) (by omega) (by dsimp only; omega) (by omega)).leQ (by decide) (by decide)
  · have hcu : u ∈ clU us u.2.2.1 := List.mem_filter.2 ⟨hu, by simp⟩
    have hz1 := szU_bd (l := clU us u.2.2.1) (fun v hv => hok v (clU_mem hv))
    have hz2 := clU_len us u.2.2.1
    have hz3 := List.length_pos_of_mem hcu
    have hst := (ht.st rfl).2 _ (mem_cnsL.2 ⟨u, hu, rfl⟩)
    have hst0 := (ht.st rfl).1
    dsimp only at hst hst0
    have hmu : 0 ≤ t1 * szU (clU us u.2.2.1) ∧ t1 * szU (clU us u.2.2.1) ≤ 25000000000000 := ⟨Int.mul_nonneg hlo (by omega), Int.le_trans (Int.mul_le_mul (show t1 ≤ 5000 by omega) (show szU (clU us u.2.2.1) ≤ 5000000000 by omega) (by omega) (by decide)) (by decide)⟩
    rw [if_neg (by decide), if_neg (by decide)]
    exact (Qu.of (A := 100000000000000) (B := 100000000000000) (by omega) (by dsimp only; omega) (by omega)).mul (Qu.of (A := 100000000000000) (B := 100000000000000) (by omega) (by dsimp only; omega) (by omega))
theorem Fnd.uniq {p : Nat → Prop} {n : Nat} {v u : Int} (h : Fnd p n v) (k : Fnd p n u) : v = u := by
  rcases k with ⟨rfl, k⟩ | ⟨j, rfl, hj, hpj, k⟩
  · exact h.none k
  · exact h.hit hj hpj k
theorem lay_at {kind : Int} {ts : List Tak} {l : List Unt} {ls : List Lyr} {m : Nat} (hD : DsOk kind ts l) (hls : (nmsL l).map (lyrF l) = ls) (hm : (nmsL l).length = m) {s : ByteArray} (hs : s ∈ nmsL l) : ∃ j : Nat, j < m ∧ Fnd (fun i => (ls.getD i lyr0).1 = s) m (j : Int) ∧ ls.getD j lyr0 = (s, stU l s, szU (stU l s), (cnsL (stU l s)).map (cluF (stU l s))) ∧ ts.getD j tak0 = tkOf ts s := by
  obtain ⟨j, hj, e1, e2, e3, e4⟩ := hD.at_ s hs
  rw [hls] at e3
  rw [hm] at hj
  obtain ⟨v, hv0⟩ := fnd_ex (fun i => (ls.getD i lyr0).1 = s) m
  have hvj : v = (j : Int) := by
    obtain ⟨i, rfl, hi, hpi⟩ := hv0.at ⟨j, hj, by rw [e3]; rfl⟩
    have h1 : (nmsL l).getD i ByteArray.empty = s := by
      have : ls.getD i lyr0 = lyrF l ((nmsL l).getD i ByteArray.empty) := by rw [← hls]; exact lyr_at rfl hm hi
      rw [this] at hpi
      exact hpi
    have hi2 : i < (nmsL l).length := by rw [hm]; exact hi
    have hj2 : j < (nmsL l).length := by rw [hm]; exact hj
    rw [getD_elem0 _ _ _ hi2] at h1
    rw [getD_elem0 _ _ _ hj2] at e4
    rcases Nat.lt_trichotomy i j with q | q | q
    · exact absurd (h1.trans e4.symm) (List.pairwise_iff_getElem.1 (nms_nodup l) i j hi2 hj2 q)
    · rw [q]
    · exact absurd (e4.trans h1.symm) (List.pairwise_iff_getElem.1 (nms_nodup l) j i hj2 hi2 q)
  subst hvj
  exact ⟨j, hj, hv0, by rw [e3]; rfl, e1⟩
section
variable {M : Nat} {w0 W : World} {φ0 φ2 ψ : Phi} {br : Nat} {cs : Array Value} {o : Option Nat} {p : Nat} {kind : Int} {aT : Option Addr} {nT cT : Nat} {ts : List Tak} {aL : Option Addr} {nL cL : Nat} {ls : List Lyr}
theorem layer_J (h : Hid (J9 w0 φ0 br cs ψ o W)) (hl : Hid (φ2.le ψ)) (pl : Hid (PlAt φ2 p kind aT nT cT ts aL nL cL ls)) {u1 : Int} {u2 : ByteArray} {u3 u4 : Int} {v : Int} (hv : Hid (Fnd (fun i => (ls.getD i lyr0).1 = u2) nL v)) :
    Calls Tryz.prog 31 #[.pointer (some ⟨p, 0, none⟩), .agg #[.int .i64 u1, .string u2, .int .i64 u3, .int .i64 u4]] W (fun e w' => e = .returned (.int .i64 v) ∧ Hid (J9 w0 φ0 br cs ψ o w')) :=
  (layer_any h.out.r.inv.fz (pl.out.mono hl.out).box (pl.out.mono hl.out).sL (Lib.hid pl.out.nL) hv).mono fun e w' q => ⟨q.1, Lib.hid (h.out.callB q.2)⟩
theorem chance_J (hM : Hid (MOk M)) (h : Hid (J9 w0 φ0 br cs ψ o W)) (hl : Hid (φ2.le ψ)) (hp : Hid (PowP φ2)) (pl : Hid (PlAt φ2 p kind aT nT cT ts aL nL cL ls)) (hk : Hid (kind = 1 ∨ kind = 2 ∨ kind = 3))
    {k : Nat} (hkT : k < nT) (hkL : k < nL) {nm : ByteArray} {us : List Unt} {s : ByteArray} {t1 t2 : Int} (hL : Hid (ls.getD k lyr0 = (nm, us, szU us, (cnsL us).map (cluF us)))) (hT : Hid (ts.getD k tak0 = (s, t1, t2))) (ht : Hid (TkOk kind (s, t1, t2) us)) {n : Nat} (hn : Hid (us.length = n)) (hln : n ≤ 5000) (hok : Hid (∀ u ∈ us, 1 ≤ u.2.2.2 ∧ u.2.2.2 ≤ 1000000))
    {u1 : Int} {u2 : ByteArray} {u3 u4 : Int} (hu : Hid ((u1, u2, u3, u4) ∈ us)) {S T : ByteArray} (hr : Hid (shtT (chR kind (s, t1, t2) us (u1, u2, u3, u4)) = (S, T))) :
    Calls Tryz.prog 30 #[.pointer (some ⟨p, 0, none⟩), .int .i64 (k : Int), .agg #[.int .i64 u1, .string u2, .int .i64 u3, .int .i64 u4]] W (fun e w' => e = .returned (.agg #[.string S, .string T]) ∧ Hid (J9 w0 φ0 br cs ψ o w')) :=
  (chance_any hM h.out.r.inv.fz (hp.out.mono hl.out) (pl.out.mono hl.out) hk.out hkT hkL hL hT ht hn hln hok hu hr).mono fun e w' q => ⟨q.1, Lib.hid (h.out.callB q.2)⟩
theorem joint_J (hM : Hid (MOk M)) (h : Hid (J9 w0 φ0 br cs ψ o W)) (hl : Hid (φ2.le ψ)) (hp : Hid (PowP φ2)) (pl : Hid (PlAt φ2 p kind aT nT cT ts aL nL cL ls)) (hk : Hid (kind = 1 ∨ kind = 2 ∨ kind = 3))
    {k : Nat} (hkT : k < nT) (hkL : k < nL) {nm : ByteArray} {us : List Unt} {s : ByteArray} {t1 t2 : Int} (hL : Hid (ls.getD k lyr0 = (nm, us, szU us, (cnsL us).map (cluF us)))) (hT : Hid (ts.getD k tak0 = (s, t1, t2))) (ht : Hid (TkOk kind (s, t1, t2) us)) {n : Nat} (hn : Hid (us.length = n)) (hln : n ≤ 5000) (hok : Hid (∀ u ∈ us, 1 ≤ u.2.2.2 ∧ u.2.2.2 ≤ 1000000))
    {u1 : Int} {u2 : ByteArray} {u3 u4 : Int} (hu : Hid ((u1, u2, u3, u4) ∈ us)) {v1 : Int} {v2 : ByteArray} {v3 v4 : Int} (hv : Hid ((v1, v2, v3, v4) ∈ us)) (hne : Hid (u1 ≠ v1)) {S T : ByteArray} (hr : Hid (shtT (jnR kind (s, t1, t2) us (u1, u2, u3, u4) (v1, v2, v3, v4)) = (S, T))) :
    Calls Tryz.prog 43 #[.pointer (some ⟨p, 0, none⟩), .int .i64 (k : Int), .agg #[.int .i64 u1, .string u2, .int .i64 u3, .int .i64 u4], .agg #[.int .i64 v1, .string v2, .int .i64 v3, .int .i64 v4]] W (fun e w' => e = .returned (.agg #[.string S, .string T]) ∧ Hid (J9 w0 φ0 br cs ψ o w')) :=
  (joint_any hM h.out.r.inv.fz (hp.out.mono hl.out) (pl.out.mono hl.out) hk.out hkT hkL hL hT ht hn hln hok hu hv hne hr).mono fun e w' q => ⟨q.1, Lib.hid (h.out.callB q.2)⟩
end
set_option maxRecDepth 100000 in
set_option maxHeartbeats 8000000 in
theorem PJoint_any {M : Nat} (hM : Hid (MOk M)) {w : World} {kind : Int} {aT : Option Addr} {cT nT : Nat} {ts : List Tak} {a : Option Addr} {c n : Nat} {l : List Unt} {φ : Phi} (hφ : Fz φ w) (hp : PowP φ) (st : SlV φ aT cT ts) (hnT : Hid (ts.length = nT)) (hmT : nT ≤ 9223372036854775807) (sl : SlV φ a c l) (hn : Hid (l.length = n)) (hm : n ≤ 9223372036854775807) (hs : Hid (∀ u ∈ l, u.2.1.size ≤ reachBytes)) {a0 b0 : Int} {S T : ByteArray} {F : Int} (hR : Hid (jntR kind ts l a0 b0 = ((S, T), F))) :
    Calls Tryz.prog 12 #[.agg #[.int .i64 kind, .slice aT nT cT], .slice a n c, .int .i64 a0, .int .i64 b0] w (fun e w' => e = .returned (.tuple #[.agg #[.string S, .string T], .int .i64 F]) ∧ Below w.heap.size w w') := by
  obtain ⟨φa, lea, ia, ka⟩ := (Inv.start hφ).frz (.cells #[.int .i64 kind, .slice aT nT cT] 24)
  obtain ⟨φb, leb, ib, kb⟩ := ia.frz (.cells #[.int .i64 a0] 3)
  obtain ⟨φ1, le1, i1, k1⟩ := ib.frz (.cells #[.int .i64 b0] 3)
  simp only [alloc_sz] at kb k1
  have hx0 := RsSt.start i1 #[.string ⟨#[]⟩, .string ⟨#[]⟩] 33
  simp only [alloc_sz] at hx0
  have HX0 : Hid (J9 w φ (w.heap.size + 1 + 1 + 1) #[.string ⟨#[]⟩, .string ⟨#[]⟩] φ1 none ((((w.alloc (.cells #[.int .i64 kind, .slice aT nT cT] 24)).alloc (.cells #[.int .i64 a0] 3)).alloc (.cells #[.int .i64 b0] 3)).alloc (.cells #[.string ⟨#[]⟩, .string ⟨#[]⟩] 33))) := Lib.hid ⟨hx0, fun x hx => by cases hx⟩
  have HB0 := Lib.hid (le1 _ _ (leb _ _ ka))
  have HB1 := Lib.hid (le1 _ _ kb)
  have HB2 := Lib.hid k1
  have LL := lea.trans (leb.trans le1)
  have ST := Lib.hid (st.mono LL)
  have SL := Lib.hid (sl.mono LL)
  have HP := Lib.hid (hp.mono LL)
  obtain ⟨q, hq⟩ : ∃ q, Hid (dsgF kind ts l = q) := ⟨_, Lib.hid rfl⟩
  clear lea ia ka leb ib kb le1 i1 k1 hx0 hφ st sl hp LL
  by_cases hq0 : q = 0
  case neg =>
    have g0 : ((q : Int) != 0) = true := by simp [hq0]
    have hRR := Lib.hid hR.out
    have hE : Hid (((⟨#[]⟩, ⟨#[]⟩), q) = (((S, T), F) : Rti × Int)) := Lib.hid (by rw [← hR.out]; unfold jntR; rw [hq.out, if_pos hq0])
    clear hq0
    go_enter Tryz.func12, Tryz.ntmps12
    go_upto_region 1 with (fail)
    generalize (((w.alloc (.cells #[.int .i64 kind, .slice aT nT cT] 24)).alloc (.cells #[.int .i64 a0] 3)).alloc (.cells #[.int .i64 b0] 3)).alloc (.cells #[.string ⟨#[]⟩, .string ⟨#[]⟩] 33) = w1 at *
    have y0 : w1.cell? ⟨w.heap.size, 0, none⟩ = some (.int .i64 kind) := box_cell HB0.out (Phi.le_refl _) HX0.out.r.inv.fz 0
    have y1 : w1.cell? ⟨w.heap.size, 1, none⟩ = some (.slice aT nT cT) := box_cell HB0.out (Phi.le_refl _) HX0.out.r.inv.fz 1
    go_upto_region 2 with (go_at_call 29; (with_reducible refine (planOf_any HX0.out.r.inv.fz ST.out hnT hmT SL.out hn hm hs hq).mono ?_); rintro e w2 ⟨pp, φ2, rfl, hi2, hp2⟩; have HX2 := Lib.hid (HX0.out.call hi2); have L2 := Lib.hid hi2.le; have hpl := Lib.hid hp2; clear hi2 hp2 y0 y1)
    obtain ⟨r0, r1, r2, r3⟩ := J9.rf HX2
    go_wp2
    have hZ := Lib.hid (J9.fin HX2 (.string ⟨#[]⟩) (.string ⟨#[]⟩))
    have e0 : _ = some (Value.string ⟨#[]⟩) := hZ.out.k.cell 0
    have e1 : _ = some (Value.string ⟨#[]⟩) := hZ.out.k.cell 1
    (try simp only [Exit.inBlock, Exit.then])
    refine bodyPost_ret (v := .tuple #[.agg #[.string ⟨#[]⟩, .string ⟨#[]⟩], .int .i64 q]) (by simp [results, Tryz.results12, go_sem, e0, e1]) rfl ?_
    have e := hE.out
    injection e with e1 e2
    injection e1 with e1 e3
    subst e1 e2 e3
    exact ⟨rfl, hZ.out.inv.bel⟩
  subst hq0
  have hD := Lib.hid (ds_ok hq.out)
  have hok := Lib.hid (frm_ok hD.out.frm)
  have hl : n ≤ 5000 := by have := hok.out.1; rw [hn.out] at this; exact this
  have hk3 := Lib.hid hD.out.kd
  obtain ⟨m, hmn⟩ : ∃ m, Hid ((nmsL l).length = m) := ⟨_, Lib.hid rfl⟩
  have hTm : Hid (nT = m) := Lib.hid (by rw [← hnT.out, ← hmn.out, ← hD.out.nms, List.length_map])
  obtain ⟨ls, hls⟩ : ∃ ls, Hid ((nmsL l).map (lyrF l) = ls) := ⟨_, Lib.hid rfl⟩
  have hml : Hid (ls.length = m) := Lib.hid (by rw [← hls.out, List.length_map, hmn.out])
  obtain ⟨va, hva⟩ := fnd_ex (fun i => (l.getD i unt0).1 = a0) n
  obtain ⟨vb, hvb⟩ := fnd_ex (fun i => (l.getD i unt0).1 = b0) n
  have HVA := Lib.hid hva
  have HVB := Lib.hid hvb
  clear hva hvb
  go_enter Tryz.func12, Tryz.ntmps12
  go_upto_region 1 with (fail)
  generalize (((w.alloc (.cells #[.int .i64 kind, .slice aT nT cT] 24)).alloc (.cells #[.int .i64 a0] 3)).alloc (.cells #[.int .i64 b0] 3)).alloc (.cells #[.string ⟨#[]⟩, .string ⟨#[]⟩] 33) = w1 at *
  have y0 : w1.cell? ⟨w.heap.size, 0, none⟩ = some (.int .i64 kind) := box_cell HB0.out (Phi.le_refl _) HX0.out.r.inv.fz 0
  have y1 : w1.cell? ⟨w.heap.size, 1, none⟩ = some (.slice aT nT cT) := box_cell HB0.out (Phi.le_refl _) HX0.out.r.inv.fz 1
  go_upto_region 2 with (go_at_call 29; (with_reducible refine (planOf_any HX0.out.r.inv.fz ST.out hnT hmT SL.out hn hm hs hq).mono ?_); rintro e w2 ⟨pp, φ2, rfl, hi2, hp2⟩; have HX2 := Lib.hid (HX0.out.call hi2); have L2 := Lib.hid hi2.le; have hpl := Lib.hid hp2; clear hi2 hp2 y0 y1)
  obtain ⟨r0, r1, r2, r3⟩ := J9.rf HX2
  have hpl := hpl.out
  rcases hpl with ⟨h, _⟩ | ⟨_, bp, aL, cL, rfl, hbp, sL⟩
  · exact absurd rfl h
  rw [hmn.out] at hbp
  rw [hls.out] at sL
  have PL : Hid (PlAt φ2 bp kind aT nT cT ts aL m cL ls) := Lib.hid ⟨hbp, ST.out.mono L2.out, sL, hnT.out, hml.out⟩
  have SL2 := Lib.hid (SL.out.mono L2.out)
  have HP2 := Lib.hid (HP.out.mono L2.out)
  have HC1 := Lib.hid (L2.out _ _ HB1.out)
  have HC2 := Lib.hid (L2.out _ _ HB2.out)
  have LR : Hid (φ2.le φ2) := Lib.hid φ2.le_refl
  clear hbp sL r0 r1 r2 r3
  go_upto_region 6 with (first
    | (go_at_call 39; (first
        | ((with_reducible refine (IdxJ_any HX2.out.r.inv.fz HC1.out n a c l SL2.out hn HVA).mono ?_); rintro e w3 ⟨rfl, hb3⟩; have HX3 := Lib.hid (HX2.out.callB hb3); clear hb3)
        | ((with_reducible refine (IdxK_any HX3.out.r.inv.fz HC2.out n a c l SL2.out hn HVB).mono ?_); rintro e w4 ⟨rfl, hb4⟩; have HX4 := Lib.hid (HX3.out.callB hb4); clear hb4)))
    | fail)
  obtain ⟨r0, r1, r2, r3⟩ := J9.rf HX4
  by_cases ha : ∃ u ∈ l, u.1 = a0
  case neg =>
    have hE : Hid (((⟨#[]⟩, ⟨#[]⟩), 9) = (((S, T), F) : Rti × Int)) := Lib.hid (by rw [← hR.out]; unfold jntR; rw [hq.out, if_neg (by simp), if_neg (fun h => ha h.1)])
    have e1 : va = -1 := HVA.out.none (fun i hi e => ha ⟨_, by rw [getD_elem0 _ _ _ (by rw [hn.out]; exact hi)]; exact List.getElem_mem _, e⟩)
    subst e1
    clear ha
    go_wp2
    have hZ := Lib.hid (J9.fin HX4 (.string ⟨#[]⟩) (.string ⟨#[]⟩))
    have e0 : _ = some (Value.string ⟨#[]⟩) := hZ.out.k.cell 0
    have e1 : _ = some (Value.string ⟨#[]⟩) := hZ.out.k.cell 1
    (try simp only [Exit.inBlock, Exit.then])
    refine bodyPost_ret (v := .tuple #[.agg #[.string ⟨#[]⟩, .string ⟨#[]⟩], .int .i64 9]) (by simp [results, Tryz.results12, go_sem, e0, e1]) rfl ?_
    have e := hE.out
    injection e with e1 e2
    injection e1 with e1 e3
    subst e1 e2 e3
    exact ⟨rfl, hZ.out.inv.bel⟩
  obtain ⟨ja1, ja2, ja3⟩ := fnd_idx (f := fun x : Unt => x.1) hn.out ha HVA.out
  obtain ⟨i, hi⟩ : ∃ i, iU l a0 = i := ⟨_, rfl⟩
  have q1 : va = (i : Int) := by rw [← hi]; exact ja1
  have q2 : i < n := by rw [← hi]; exact ja2
  have q3 : (l.getD i unt0).1 = a0 := by rw [← hi]; exact ja3
  subst q1
  clear ja1 ja2 ja3
  by_cases hb : ∃ u ∈ l, u.1 = b0
  case neg =>
    have hE : Hid (((⟨#[]⟩, ⟨#[]⟩), 9) = (((S, T), F) : Rti × Int)) := Lib.hid (by rw [← hR.out]; unfold jntR; rw [hq.out, if_neg (by simp), if_neg (fun h => hb h.2)])
    have e1 : vb = -1 := HVB.out.none (fun i hi e => hb ⟨_, by rw [getD_elem0 _ _ _ (by rw [hn.out]; exact hi)]; exact List.getElem_mem _, e⟩)
    subst e1
    have g1 : ¬ (i : Int) < 0 := by omega
    clear ha hb
    go_wp2
    have hZ := Lib.hid (J9.fin HX4 (.string ⟨#[]⟩) (.string ⟨#[]⟩))
    have e0 : _ = some (Value.string ⟨#[]⟩) := hZ.out.k.cell 0
    have e1 : _ = some (Value.string ⟨#[]⟩) := hZ.out.k.cell 1
    (try simp only [Exit.inBlock, Exit.then])
    refine bodyPost_ret (v := .tuple #[.agg #[.string ⟨#[]⟩, .string ⟨#[]⟩], .int .i64 9]) (by simp [results, Tryz.results12, go_sem, e0, e1]) rfl ?_
    have e := hE.out
    injection e with e1 e2
    injection e1 with e1 e3
    subst e1 e2 e3
    exact ⟨rfl, hZ.out.inv.bel⟩
  obtain ⟨jb1, jb2, jb3⟩ := fnd_idx (f := fun x : Unt => x.1) hn.out hb HVB.out
  obtain ⟨k, hk⟩ : ∃ i, iU l b0 = i := ⟨_, rfl⟩
  have q4 : vb = (k : Int) := by rw [← hk]; exact jb1
  have q5 : k < n := by rw [← hk]; exact jb2
  have q6 : (l.getD k unt0).1 = b0 := by rw [← hk]; exact jb3
  subst q4
  clear jb1 jb2 jb3
  have hE : Hid ((shtT (prR kind ts l (l.getD i unt0) (l.getD k unt0)), 0) = (((S, T), F) : Rti × Int)) := Lib.hid (by rw [← hR.out]; unfold jntR; rw [hq.out, if_neg (by simp), if_pos ⟨ha, hb⟩, hi, hk])
  have hik : Hid (a0 = b0 → i = k) := Lib.hid (fun e => by rw [← hi, ← hk, e])
  clear ha hb hi hk
  have hmi : l.getD i unt0 ∈ l := by rw [getD_elem0 _ _ _ (by rw [hn.out]; exact q2)]; exact List.getElem_mem _
  have hmk : l.getD k unt0 ∈ l := by rw [getD_elem0 _ _ _ (by rw [hn.out]; exact q5)]; exact List.getElem_mem _
  obtain ⟨b, off, rfl, f⟩ := SL2.out.untD hn q2
  have F1 := Lib.hid (f i q2)
  have F2 := Lib.hid (f k q5)
  have hne0 : Hid (¬ a0 = b0 → ¬ i = k) := Lib.hid (fun h e => h (by rw [← q3, ← q6, e]))
  have hsame : Hid (i = k → l.getD i unt0 = l.getD k unt0) := Lib.hid (fun e => by rw [e])
  clear f
  generalize l.getD i unt0 = U at *
  generalize l.getD k unt0 = V at *
  obtain ⟨u1, u2, u3, u4⟩ := U
  obtain ⟨v1, v2, v3, v4⟩ := V
  dsimp only at q3 q6 F1 F2
  have H3 := Lib.hid q3
  have H6 := Lib.hid q6
  clear q3 q6
  obtain ⟨ju, hju, HFu, eu1, eu2⟩ := lay_at hD.out hls.out hmn.out (mem_nmsL.2 ⟨_, hmi, rfl⟩ : u2 ∈ nmsL l)
  obtain ⟨jv, hjv, HFv, ev1, ev2⟩ := lay_at hD.out hls.out hmn.out (mem_nmsL.2 ⟨_, hmk, rfl⟩ : v2 ∈ nmsL l)
  have tku := hD.out.tak u2 (mem_nmsL.2 ⟨_, hmi, rfl⟩)
  have tkv := hD.out.tak v2 (mem_nmsL.2 ⟨_, hmk, rfl⟩)
  have hjj : Hid (u2 = v2 → ju = jv) := Lib.hid (fun e => by
    subst e
    have := HFu.uniq HFv
    omega)
  have hjn : Hid (¬ u2 = v2 → ¬ ju = jv) := Lib.hid (fun h e => h (by
    rw [e, ev1] at eu1
    exact (congrArg (·.1) eu1).symm))
  have hpr : Hid (prR kind ts l (u1, u2, u3, u4) (v1, v2, v3, v4) = if u1 = v1 then chR kind (tkOf ts u2) (stU l u2) (u1, u2, u3, u4) else if u2 = v2 then jnR kind (tkOf ts u2) (stU l u2) (u1, u2, u3, u4) (v1, v2, v3, v4) else chR kind (tkOf ts u2) (stU l u2) (u1, u2, u3, u4) * chR kind (tkOf ts v2) (stU l v2) (v1, v2, v3, v4)) := Lib.hid rfl
  have hmu : Hid ((u1, u2, u3, u4) ∈ stU l u2) := Lib.hid (List.mem_filter.2 ⟨hmi, by simp⟩)
  have hmv : Hid ((v1, v2, v3, v4) ∈ stU l v2) := Lib.hid (List.mem_filter.2 ⟨hmk, by simp⟩)
  have bu : (stU l u2).length ≤ 5000 := Nat.le_trans (stU_len l u2) (by rw [hn.out]; exact hl)
  have bv : (stU l v2).length ≤ 5000 := Nat.le_trans (stU_len l v2) (by rw [hn.out]; exact hl)
  have oku : Hid (∀ u ∈ stU l u2, 1 ≤ u.2.2.2 ∧ u.2.2.2 ≤ 1000000) := Lib.hid (fun u hu => (hok.out.2.2 u (stU_mem hu)).2.2)
  have okv : Hid (∀ u ∈ stU l v2, 1 ≤ u.2.2.2 ∧ u.2.2.2 ≤ 1000000) := Lib.hid (fun u hu => (hok.out.2.2 u (stU_mem hu)).2.2)
  have huv : Hid (u2 = v2 → stU l u2 = stU l v2) := Lib.hid (fun e => by rw [e])
  generalize hTu : tkOf ts u2 = tu at *
  generalize hTv : tkOf ts v2 = tv at *
  generalize stU l u2 = us at *
  generalize stU l v2 = vs at *
  obtain ⟨s, t1, t2⟩ := tu
  obtain ⟨s', t1', t2'⟩ := tv
  obtain ⟨nu, hnu⟩ : ∃ x, Hid (us.length = x) := ⟨_, Lib.hid rfl⟩
  obtain ⟨nv, hnv⟩ : ∃ x, Hid (vs.length = x) := ⟨_, Lib.hid rfl⟩
  rw [hnu.out] at bu
  rw [hnv.out] at bv
  have HLu := Lib.hid eu1
  have HLv := Lib.hid ev1
  have HTu := Lib.hid eu2
  have HTv := Lib.hid ev2
  have TKu := Lib.hid tku
  have TKv := Lib.hid tkv
  have HFU := Lib.hid HFu
  have HFV := Lib.hid HFv
  have hjuT : ju < nT := by rw [hTm.out]; exact hju
  have hjvT : jv < nT := by rw [hTm.out]; exact hjv
  have g1 : ¬ (i : Int) < 0 := by omega
  have g2 : ¬ (k : Int) < 0 := by omega
  have g3 : (0 : Int) ≤ (i : Int) := by omega
  have g4 : (i : Int) < n := by omega
  have g5 : (0 : Int) ≤ (k : Int) := by omega
  have g6 : (k : Int) < n := by omega
  clear eu1 eu2 ev1 ev2 tku tkv HFu HFv hmi hmk hTu hTv r0 r1 r2 r3
  have hfc := fun (W : World) (hf : Fz φ2 W) => (⟨(F1.out W hf).2, (F2.out W hf).2⟩ : (W.cell? ⟨b, off + i * 4, none⟩ = some (.int .i64 u1) ∧ W.cell? ⟨b, off + i * 4 + 1, none⟩ = some (.string u2) ∧ W.cell? ⟨b, off + i * 4 + 2, none⟩ = some (.int .i64 u3) ∧ W.cell? ⟨b, off + i * 4 + 3, none⟩ = some (.int .i64 u4)) ∧ (W.cell? ⟨b, off + k * 4, none⟩ = some (.int .i64 v1) ∧ W.cell? ⟨b, off + k * 4 + 1, none⟩ = some (.string v2) ∧ W.cell? ⟨b, off + k * 4 + 2, none⟩ = some (.int .i64 v3) ∧ W.cell? ⟨b, off + k * 4 + 3, none⟩ = some (.int .i64 v4)))
  have HXd : Hid (J9 w φ (w.heap.size + 1 + 1 + 1) #[.string ⟨#[]⟩, .string ⟨#[]⟩] φ2 none w4.drew) := Lib.hid (HX4.out.callB (bdrewN (Below.refl _ w4) 1))
  go_upto_region 8 with (fail)
  apply wp_region_cutV (fun (_ : PUnit) => [(39, .pointer (some ⟨bp, 0, none⟩)), (40, .slice (some ⟨b, off, none⟩) n c), (41, .int .i64 (i : Int)), (42, .pointer (some ⟨b, off + i * 4, none⟩)), (43, .agg #[.int .i64 u1, .string u2, .int .i64 u3, .int .i64 u4]), (44, .int .i64 (ju : Int)), (45, .pointer (some ⟨bp, 0, none⟩)), (46, .slice (some ⟨b, off, none⟩) n c), (47, .int .i64 (k : Int)), (48, .pointer (some ⟨b, off + k * 4, none⟩)), (49, .agg #[.int .i64 v1, .string v2, .int .i64 v3, .int .i64 v4]), (50, .int .i64 (jv : Int)), (14, .int .i64 (ju : Int)), (15, .int .i64 (jv : Int))])
    (fun _ W => Hid (J9 w φ (w.heap.size + 1 + 1 + 1) #[.string ⟨#[]⟩, .string ⟨#[]⟩] φ2 none W))
  case h1 =>
    intro KK hKK
    go_region_held3 (fun W => (W.cell? ⟨b, off + i * 4, none⟩ = some (.int .i64 u1) ∧ W.cell? ⟨b, off + i * 4 + 1, none⟩ = some (.string u2) ∧ W.cell? ⟨b, off + i * 4 + 2, none⟩ = some (.int .i64 u3) ∧ W.cell? ⟨b, off + i * 4 + 3, none⟩ = some (.int .i64 u4)) ∧ (W.cell? ⟨b, off + k * 4, none⟩ = some (.int .i64 v1) ∧ W.cell? ⟨b, off + k * 4 + 1, none⟩ = some (.string v2) ∧ W.cell? ⟨b, off + k * 4 + 2, none⟩ = some (.int .i64 v3) ∧ W.cell? ⟨b, off + k * 4 + 3, none⟩ = some (.int .i64 v4))) (first | with_reducible exact hfc _ HXd.out.r.inv.fz | with_reducible exact hfc _ (by with_reducible assumption) | fail) (first
      | (go_at_call 31; (first
          | ((with_reducible refine (layer_J (by with_reducible assumption) LR PL HFU).mono ?_); rintro e wB ⟨rfl, HB⟩; have FB : Fz φ2 wB := HB.out.r.inv.fz)
          | ((with_reducible refine (layer_J (by with_reducible assumption) LR PL HFV).mono ?_); rintro e wB ⟨rfl, HB⟩; have FB : Fz φ2 wB := HB.out.r.inv.fz)))
      | fail)
    all_goals
      refine onlyN_mk ?_
      have hk := fun W s => hKK.out PUnit.unit W s
      simp only [updA, List.foldl_cons, List.foldl_nil, List.setIfInBounds_toArray, List.set_cons_succ, List.set_cons_zero] at hk
      exact hk _ HB
  case h2 =>
  intro _ W5 HX5
  simp only [updA, List.foldl_cons, List.foldl_nil, List.setIfInBounds_toArray, List.set_cons_succ, List.set_cons_zero]
  clear HXd HX4
  obtain ⟨⟨c0, c1, c2, c3⟩, c4, c5, c6, c7⟩ := hfc W5 HX5.out.r.inv.fz
  have hEo := hE.out
  injection hEo with e1 e2
  have HF0 := Lib.hid e2
  rw [hpr.out] at e1
  by_cases hab : a0 = b0
  · have hkk := hik.out hab
    subst hkk
    have ebb : ((i : Int) == (i : Int)) = true := by simp
    rw [if_pos (by rw [H3.out, H6.out]; exact hab)] at e1
    have hr := Lib.hid e1
    clear hab e1 e2
    go_wp2_with (go_at_call 30; (with_reducible refine (chance_J hM HX5 LR HP2 PL hk3 hjuT hju HLu HTu TKu hnu bu oku hmu hr).mono ?_); rintro e wZ ⟨rfl, HZ⟩; obtain ⟨r0, r1, r2, r3⟩ := J9.rf HZ)
    have hZ := Lib.hid (J9.fin HZ (.string S) (.string T))
    have e0 : _ = some (Value.string S) := hZ.out.k.cell 0
    have e1 : _ = some (Value.string T) := hZ.out.k.cell 1
    (try simp only [Exit.inBlock, Exit.then])
    refine bodyPost_ret (v := .tuple #[.agg #[.string S, .string T], .int .i64 0]) (by simp [results, Tryz.results12, go_sem, e0, e1]) rfl ?_
    exact ⟨by rw [HF0.out], hZ.out.inv.bel⟩
  have hnik := hne0.out hab
  have ebb : ((i : Int) == (k : Int)) = false := by simp; omega
  rw [if_neg (by rw [H3.out, H6.out]; exact hab)] at e1
  have HXd : Hid (J9 w φ (w.heap.size + 1 + 1 + 1) #[.string ⟨#[]⟩, .string ⟨#[]⟩] φ2 none W5.drew) := Lib.hid (HX5.out.callB (bdrewN (Below.refl _ W5) 1))
  by_cases hst : u2 = v2
  · have hj2 := hjj.out hst
    have hvs := huv.out hst
    rw [if_pos hst] at e1
    have hr := Lib.hid e1
    have HMV : Hid ((v1, v2, v3, v4) ∈ us) := Lib.hid (by rw [hvs]; exact hmv.out)
    have HNE : Hid (u1 ≠ v1) := Lib.hid (by rw [H3.out, H6.out]; exact hab)
    subst hj2
    have ejj : ((ju : Int) != (ju : Int)) = false := by simp
    clear hab e1 e2 hst hvs c0 c1 c2 c3 c4 c5 c6 c7
    go_upto_region 13 with (fail)
    go_region_held3 (fun W => (W.cell? ⟨b, off + i * 4, none⟩ = some (.int .i64 u1) ∧ W.cell? ⟨b, off + i * 4 + 1, none⟩ = some (.string u2) ∧ W.cell? ⟨b, off + i * 4 + 2, none⟩ = some (.int .i64 u3) ∧ W.cell? ⟨b, off + i * 4 + 3, none⟩ = some (.int .i64 u4)) ∧ (W.cell? ⟨b, off + k * 4, none⟩ = some (.int .i64 v1) ∧ W.cell? ⟨b, off + k * 4 + 1, none⟩ = some (.string v2) ∧ W.cell? ⟨b, off + k * 4 + 2, none⟩ = some (.int .i64 v3) ∧ W.cell? ⟨b, off + k * 4 + 3, none⟩ = some (.int .i64 v4))) (first | with_reducible exact hfc _ HXd.out.r.inv.fz | with_reducible exact hfc _ (J9.fin HZ _ _).inv.fz | with_reducible exact hfc _ (by with_reducible assumption) | fail) (first
      | (go_at_call 43; (with_reducible refine (joint_J hM HXd LR HP2 PL hk3 hjuT hju HLu HTu TKu hnu bu oku hmu HMV HNE hr).mono ?_); rintro e wZ ⟨rfl, HZ⟩; have FZ : Fz φ2 wZ := HZ.out.r.inv.fz; obtain ⟨r0, r1, r2, r3⟩ := J9.rf HZ)
      | fail)
    all_goals
      go_wp2
      have hZ := Lib.hid (J9.fin HZ (.string S) (.string T))
      have e0 : _ = some (Value.string S) := hZ.out.k.cell 0
      have e1 : _ = some (Value.string T) := hZ.out.k.cell 1
      (try simp only [Exit.inBlock, Exit.then])
      refine bodyPost_ret (v := .tuple #[.agg #[.string S, .string T], .int .i64 0]) (by simp [results, Tryz.results12, go_sem, e0, e1]) rfl ?_
      exact ⟨by rw [HF0.out], hZ.out.inv.bel⟩
  · have hj2 := hjn.out hst
    rw [if_neg hst] at e1
    have hr := Lib.hid e1
    have ejj : ((ju : Int) != (jv : Int)) = true := by simp; omega
    obtain ⟨⟨S1, T1⟩, hr1⟩ : ∃ r : Rti, Hid (shtT (chR kind (s, t1, t2) us (u1, u2, u3, u4)) = r) := ⟨_, Lib.hid rfl⟩
    obtain ⟨⟨S2, T2⟩, hr2⟩ : ∃ r : Rti, Hid (shtT (chR kind (s', t1', t2') vs (v1, v2, v3, v4)) = r) := ⟨_, Lib.hid rfl⟩
    have Qa := ch_qu hk3.out (by rw [hnu.out]; exact bu) oku.out TKu.out hmu.out
    have Qb := ch_qu hk3.out (by rw [hnv.out]; exact bv) okv.out TKv.out hmv.out
    have Q1 : Hid (QuF (chR kind (s, t1, t2) us (u1, u2, u3, u4))) := Lib.hid ⟨_, _, Qa, by decide, by decide⟩
    have Q2 : Hid (QuF (chR kind (s', t1', t2') vs (v1, v2, v3, v4))) := Lib.hid ⟨_, _, Qb, by decide, by decide⟩
    have Q3 : Hid (QuF (chR kind (s, t1, t2) us (u1, u2, u3, u4) * chR kind (s', t1', t2') vs (v1, v2, v3, v4))) := Lib.hid ⟨_, _, Qa.mul Qb, by decide, by decide⟩
    clear hab e1 e2 hst c0 c1 c2 c3 c4 c5 c6 c7 Qa Qb
    go_upto_region 12 with (fail)
    go_region_held3 (fun W => (W.cell? ⟨b, off + i * 4, none⟩ = some (.int .i64 u1) ∧ W.cell? ⟨b, off + i * 4 + 1, none⟩ = some (.string u2) ∧ W.cell? ⟨b, off + i * 4 + 2, none⟩ = some (.int .i64 u3) ∧ W.cell? ⟨b, off + i * 4 + 3, none⟩ = some (.int .i64 u4)) ∧ (W.cell? ⟨b, off + k * 4, none⟩ = some (.int .i64 v1) ∧ W.cell? ⟨b, off + k * 4 + 1, none⟩ = some (.string v2) ∧ W.cell? ⟨b, off + k * 4 + 2, none⟩ = some (.int .i64 v3) ∧ W.cell? ⟨b, off + k * 4 + 3, none⟩ = some (.int .i64 v4))) (first | with_reducible exact hfc _ HXd.out.r.inv.fz | with_reducible exact hfc _ (J9.fin HZ _ _).inv.fz | with_reducible exact hfc _ (by with_reducible assumption) | fail) (first
      | (go_at_call 30; (first
          | ((with_reducible refine (chance_J hM (by with_reducible assumption) LR HP2 PL hk3 hjuT hju HLu HTu TKu hnu bu oku hmu hr1).mono ?_); rintro e wB ⟨rfl, HB⟩; have FB : Fz φ2 wB := HB.out.r.inv.fz)
          | ((with_reducible refine (chance_J hM (by with_reducible assumption) LR HP2 PL hk3 hjvT hjv HLv HTv TKv hnv bv okv hmv hr2).mono ?_); rintro e wB ⟨rfl, HB⟩; have FB : Fz φ2 wB := HB.out.r.inv.fz)))
      | (go_at_call 42; (with_reducible refine (times_J hM (by with_reducible assumption) LR HP2 Q1 Q2 Q3 hr1 hr2 hr).mono ?_); rintro e wZ ⟨rfl, HZ⟩; have FZ : Fz φ2 wZ := HZ.out.r.inv.fz; obtain ⟨r0, r1, r2, r3⟩ := J9.rf HZ)
      | fail)
    all_goals
      go_wp2
      have hZ := Lib.hid (J9.fin HZ (.string S) (.string T))
      have e0 : _ = some (Value.string S) := hZ.out.k.cell 0
      have e1 : _ = some (Value.string T) := hZ.out.k.cell 1
      (try simp only [Exit.inBlock, Exit.then])
      refine bodyPost_ret (v := .tuple #[.agg #[.string S, .string T], .int .i64 0]) (by simp [results, Tryz.results12, go_sem, e0, e1]) rfl ?_
      exact ⟨by rw [HF0.out], hZ.out.inv.bel⟩
end Go.Proofs.YtnlhalnjbkpdnaaGreatDoor
