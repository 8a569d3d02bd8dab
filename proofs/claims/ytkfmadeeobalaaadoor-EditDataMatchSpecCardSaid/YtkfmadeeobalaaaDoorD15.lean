/- The walk of Changed. Conditions: the library's table of powers of ten reads as it was laid. -/
import Derived.Test.YtkfmadeeobalaaaDoorD14
namespace Go.Proofs.YtkfmadeeobalaaaDoor
open Go.RowKit
set_option linter.unusedVariables false
noncomputable def chgF (fs : List Fld) (es : List Edt) (l : List Giv) (rec : List Int) : Int := if planF fs es ≠ 0 then planF fs es else if dataF l ≠ 0 then dataF l else recF fs.length rec
def chgR (fs : List Fld) (l : List Giv) (rec : List Int) (F : Int) : List Giv := if F = 0 then chgK fs rec (recO fs l fs.length) l fs.length else []
def GivFPost (out : List Giv) (F : Int) (φ : Phi) (w : World) (e : Ending) (w' : World) : Prop :=
  ∃ φ' a cap, e = .returned (.tuple #[.slice a out.length cap, .int .i64 F]) ∧ Inv w.heap.size w φ φ' w' ∧ SlV φ' a cap out
theorem names_inj {fs : List Fld} {n : Nat} (hn : fs.length = n) (h : ∀ i, i < n → fldBad fs i = 0) : ∀ i j, i < n → j < n → (fs.getD i fld0).1 = (fs.getD j fld0).1 → i = j := by
  have key : ∀ i j, j < n → i < j → (fs.getD i fld0).1 ≠ (fs.getD j fld0).1 := by
    intro i j hj hij e
    apply (fldBad_zero (h j hj)).2.1
    unfold seenL
    rw [List.mem_reverse, List.mem_map]
    refine ⟨fs.getD i fld0, ?_, e⟩
    rw [getD_elem0 _ _ _ (by omega), List.mem_take_iff_getElem]
    exact ⟨i, by omega, rfl⟩
  intro i j hi hj e
  rcases Nat.lt_trichotomy i j with q | q | q
  · exact absurd e (key i j hj q)
  · exact q
  · exact absurd e.symm (key j i hi q)
theorem recO_at (fs : List Fld) (l : List Giv) {n j : Nat} (hj : j < n) : (recO fs l n).getD j 0 = codeH (l.filter (atB (fs.getD j fld0).1)) := by
  unfold recO
  rw [getD_map0 _ _ _ 0 (by simpa using hj), getD_range0 hj, codeOf_eq]
theorem data_uniq {l : List Giv} (h : dataF l = 0) : Uniq l := by
  apply uniq_of
  intro i hi
  unfold dataF at h
  split at h
  · cases h
  · exact (givBad_zero (scan_all _ h i hi)).2
theorem data_len {l : List Giv} (h : dataF l = 0) : ∀ g ∈ l, g.1.2.length ≤ 1000000 ∧ g.2.2.2.2.length ≤ 1000000 := by
  intro g hg
  obtain ⟨i, hi, rfl⟩ := List.mem_iff_getElem.1 hg
  unfold dataF at h
  split at h
  · cases h
  · have h1 := (givBad_zero (scan_all _ h i hi)).1
    rw [getD_elem0 _ _ _ hi] at h1
    obtain ⟨_, h2, _, h3⟩ := givBase_zero h1
    refine ⟨by omega, ?_⟩
    unfold valF at h3
    split at h3
    · cases h3
    · split at h3
      · cases h3
      · split at h3
        · cases h3
        · split at h3
          · cases h3
          · next q => omega
theorem chg_pos {fs : List Fld} {l : List Giv} {rec : List Int} {n : Nat} (hn : fs.length = n) (hf : ∀ i, i < n → fldBad fs i = 0) (hd : dataF l = 0) : ∀ k, k < n → rec.getD k 0 ≠ (recO fs l n).getD k 0 → rec.getD k 0 = 0 → 0 ≤ findI (chgK fs rec (recO fs l n) l k) (fs.getD k fld0).1 := by
  intro k hk h1 h2
  have h3 := (chgK_ok (rec := rec) (names_inj hn hf) (data_uniq hd) (fun j hj => recO_at fs l hj) k (by omega)).2 k hk
  apply find_of_code
  rw [h3, if_neg (by omega)]
  exact fun e => h1 (h2.trans e.symm)
/-- A whole element is stored. -/
theorem Own.put6 {B g cap i : Nat} {w0 w : World} {φ0 φ : Phi} {xs : List Giv} {y : Giv} {v0 v1 v2 v3 v4 v5 : Value} (hi : Inv B w0 φ0 φ w) (ho : Own B φ w 54 (some ⟨g, 0, none⟩) cap xs) (hin : i < xs.length) (hr : Rep.rep φ y [v0, v1, v2, v3, v4, v5]) :
    Inv B w0 φ0 φ ((((((w.setCell ⟨g, i * 6, none⟩ v0).setCell ⟨g, i * 6 + 1, none⟩ v1).setCell ⟨g, i * 6 + 2, none⟩ v2).setCell ⟨g, i * 6 + 3, none⟩ v3).setCell ⟨g, i * 6 + 4, none⟩ v4).setCell ⟨g, i * 6 + 5, none⟩ v5) ∧
    Own B φ ((((((w.setCell ⟨g, i * 6, none⟩ v0).setCell ⟨g, i * 6 + 1, none⟩ v1).setCell ⟨g, i * 6 + 2, none⟩ v2).setCell ⟨g, i * 6 + 3, none⟩ v3).setCell ⟨g, i * 6 + 4, none⟩ v4).setCell ⟨g, i * 6 + 5, none⟩ v5) 54 (some ⟨g, 0, none⟩) cap (xs.set i y) := by
  obtain ⟨g', cur, hg, hB, hf, hb, hs, hl, hm, hrr⟩ := ho.givBlk (fun e => by rw [e] at hin; simp at hin)
  cases hg
  have hW : ((((((w.setCell ⟨g, i * 6, none⟩ v0).setCell ⟨g, i * 6 + 1, none⟩ v1).setCell ⟨g, i * 6 + 2, none⟩ v2).setCell ⟨g, i * 6 + 3, none⟩ v3).setCell ⟨g, i * 6 + 4, none⟩ v4).setCell ⟨g, i * 6 + 5, none⟩ v5) = w.setCells g (i * 6) [v0, v1, v2, v3, v4, v5] := rfl
  obtain ⟨vs, hvs⟩ : ∃ vs, vs = [v0, v1, v2, v3, v4, v5] := ⟨_, rfl⟩
  have h60 : vs.length = 6 := by rw [hvs]; rfl
  rw [← hvs] at hW hr
  rw [hW]
  clear hW hvs
  have h1 := setCells_inv vs (i * 6) hi hB hf
  have h2 := setCells_blk vs (i * 6) w hb
  have hL : cur.toList.length = cap * 6 := by rw [← hs]; simp
  have h6 := Nat.mul_le_mul_right 6 hl
  have h7 := Nat.mul_le_mul_right 6 (Nat.succ_le_of_lt hin)
  rw [Nat.succ_mul] at h7
  have e1 := putL_list vs (i * 6) cur (by rw [hs, h60]; omega)
  have h3 := RepL.set hrr i hin hr
  refine ⟨h1, Own.ofBlk hB hf h2 (by rw [putL_size, hs]) (by rw [List.length_set]; exact hl) hm ?_⟩
  rw [List.length_set, e1]
  have hA : (List.take (i * 6) cur.toList ++ vs).length = i * 6 + 6 := by rw [List.length_append, List.length_take, hL, h60]; omega
  have e2 : List.take (xs.length * 6) (List.take (i * 6) cur.toList ++ vs ++ List.drop (i * 6 + vs.length) cur.toList) = List.take (i * 6) (List.take (xs.length * 6) cur.toList) ++ vs ++ List.drop (i * 6 + 6) (List.take (xs.length * 6) cur.toList) := by
    rw [List.take_append, hA, List.take_of_length_le (by rw [hA]; omega)]
    have e3 : List.take (i * 6) (List.take (xs.length * 6) cur.toList) = List.take (i * 6) cur.toList := by rw [List.take_take]; congr 1; omega
    rw [e3, List.drop_take, h60]
  rw [e2]
  exact h3
set_option maxRecDepth 100000 in
set_option maxHeartbeats 2000000 in
theorem Changed_any
  (n : Nat) (a : Option Addr) (cap : Nat) (fs : List Fld) (m : Nat) (ae : Option Addr) (ce : Nat) (es : List Edt) (w : World) (φ : Phi) (hφ : Fz φ w) (ht : TabP φ) (hpw : PowP φ) (s : SlV φ a cap fs) (hn : Hid (fs.length = n)) (hm : n ≤ 9223372036854775807) (hg : Hid (∀ x ∈ fs, FldG x)) (se : SlV φ ae ce es) (hne : Hid (es.length = m)) (hme : m ≤ 9223372036854775807) (hge : Hid (∀ x ∈ es, EdtG x))
      (nd : Nat) (ad : Option Addr) (cd : Nat) (l : List Giv) (sl : SlV φ ad cd l) (hl : Hid (l.length = nd)) (hgl : Hid (∀ x ∈ l, x.1.1.size ≤ reachBytes))
      (nr : Nat) (a2 : Option Addr) (c2 : Nat) (rec : List Int) (sr : SlV φ a2 c2 rec) (hrl : Hid (rec.length = nr)) (hmr : nr ≤ 9223372036854775807)
    {F : Int} (hF : Hid (chgF fs es l rec = F)) {out : List Giv} (ho : Hid (chgR fs l rec F = out)) :
    Calls Tryd.prog 15 #[.agg #[.slice a n cap, .slice ae m ce], .slice ad nd cd, .slice a2 nr c2] w (GivFPost out F φ w) := by
  obtain ⟨φ1, le1, i1, k1⟩ := (Inv.start hφ).frz (.cells #[.slice a n cap, .slice ae m ce] 25)
  have H0 := Lib.hid i1
  have LE1 := Lib.hid le1
  have HBX := Lib.hid (fun (φ' : Phi) (h : φ1.le φ') (w' : World) (hf : Fz φ' w') => (hf.blk (h _ _ k1)))
  have p0 : (w.alloc (.cells #[.slice a n cap, .slice ae m ce] 25)).cell? ⟨w.heap.size, 0, none⟩ = some (.slice a n cap) := box_at 0
  have p1 : (w.alloc (.cells #[.slice a n cap, .slice ae m ce] 25)).cell? ⟨w.heap.size, 1, none⟩ = some (.slice ae m ce) := box_at 1
  have C0 := Lib.hid (rulesOf_any n a cap fs m ae ce es (w.alloc (.cells #[.slice a n cap, .slice ae m ce] 25)) φ1 i1.fz (s.mono le1) hn hm hg (se.mono le1) hne hme hge)
  have hnd3 := sl.len
  rw [hl.out] at hnd3
  replace hpw := Lib.hid (hpw.mono le1)
  clear i1 le1 k1 ht
  go_enter Tryd.func15, Tryd.ntmps15
  go_wp2_with fail
  clear p0 p1
  generalize hbp : w.heap.size = bp at *
  replace hbp := Lib.hid hbp
  refine C0.out.mono ?_
  rintro e w1 ⟨φ2, hi1, ⟨hp, rfl⟩ | ⟨hp, br, rfl, hR⟩⟩
  · have H1 := Lib.hid (H0.out.call hi1)
    obtain ⟨P, hP⟩ : ∃ P, Hid (planF fs es = P) := ⟨_, Lib.hid rfl⟩
    rw [hP.out] at hp ⊢
    have hpp : (P != 0) = true := by simp [hp]
    have HF : Hid (F = P) := Lib.hid (by rw [← hF.out, chgF, hP.out, if_pos hp])
    have HO : Hid (out = []) := Lib.hid (by rw [← ho.out, chgR, HF.out, if_neg hp])
    clear hi1 C0 hp
    go_wp2
    go_ret2
    obtain rfl := HF.out
    obtain rfl := HO.out
    exact ⟨_, none, 0, rfl, by rw [hbp.out]; exact H1.out, SlV.empty _⟩
  have H1 := Lib.hid (H0.out.call hi1)
  have L12 := Lib.hid hi1.le
  have L02 := Lib.hid (LE1.out.trans L12.out)
  obtain ⟨a', cap', ae', ce', ab', cb', hV⟩ := hR.open_ hp rfl rfl
  obtain ⟨D, hD⟩ : ∃ D, Hid (dataF l = D) := ⟨_, Lib.hid rfl⟩
  have hF2 := hF.out
  rw [chgF, if_neg (by simp [hp]), hD.out, hn.out] at hF2
  have HF0 := Lib.hid hF2
  have OK := planF_zero hp
  rw [hn.out, hne.out] at OK hV
  have hn12 := OK.pos.2
  clear hi1 H0 C0 hp hF hF2 hR
  go_wp2_with fail
  refine (dataFault_any nd ad cd l w1 φ2 H1.out.fz (hpw.out.mono L12.out) (sl.mono L02.out) hl hnd3 hgl hD).mono ?_
  rintro e w2 ⟨rfl, hb2⟩
  have H2 := Lib.hid (H1.out.callB hb2)
  clear hb2 H1
  by_cases hz : D = 0
  case neg =>
    have hzz : (D != 0) = true := by simp [hz]
    have HF : Hid (F = D) := Lib.hid (by rw [← HF0.out, if_pos hz])
    have HO : Hid (out = []) := Lib.hid (by rw [← ho.out, chgR, HF.out, if_neg hz])
    clear hz
    go_wp2
    go_ret2
    obtain rfl := HF.out
    obtain rfl := HO.out
    exact ⟨_, none, 0, rfl, by rw [hbp.out]; exact H2.out, SlV.empty _⟩
  subst hz
  rw [if_neg (by simp)] at HF0
  go_wp2_with fail
  refine (recordFault_any hV w2 H2.out.fz nr a2 c2 rec (sr.mono L02.out) hrl hmr).mono ?_
  rintro e w' ⟨rfl, rfl⟩
  rw [HF0.out]
  by_cases hz : F = 0
  case neg =>
    have hzz : (F != 0) = true := by simp [hz]
    have HO : Hid (out = []) := Lib.hid (by rw [← ho.out, chgR, if_neg hz])
    have HF : Hid (F = F) := Lib.hid rfl
    clear hz
    go_wp2
    go_ret2
    obtain rfl := HO.out
    exact ⟨_, none, 0, rfl, by rw [hbp.out]; exact H2.out, SlV.empty _⟩
  subst hz
  obtain rfl : nr = n := by rw [← hrl.out, recF_len HF0.out]
  have HO : Hid (out = chgK fs rec (recO fs l nr) l nr) := Lib.hid (by rw [← ho.out, chgR, if_pos rfl, hn.out])
  have p0 : w2.cell? ⟨bp, 0, none⟩ = some (.slice a nr cap) := (HBX.out φ2 L12.out w2 H2.out.fz).cell 0
  have p1 : w2.cell? ⟨bp, 1, none⟩ = some (.slice ae m ce) := (HBX.out φ2 L12.out w2 H2.out.fz).cell 1
  have hd3 : nd ≤ 3000 := by
    have h := hD.out
    unfold dataF at h
    rw [hl.out] at h
    split at h
    · cases h
    · omega
  go_wp2_with fail
  clear p0 p1
  refine (recordOf_any nr hn12 a cap fs m ae ce w2 φ2 H2.out.fz (s.mono L02.out) hn nd ad cd l (sl.mono L02.out) hl).mono ?_
  rintro e w3 ⟨φ3, a3, c3, rfl, hi3, s3⟩
  rw [recO_len]
  have H3 := Lib.hid (H2.out.call hi3)
  have L23 := Lib.hid hi3.le
  have L03 := Lib.hid (L02.out.trans hi3.le)
  have S3 := Lib.hid s3
  clear hi3 s3 H2
  go_wp2_with fail
  refine (cloneData_any H3.out.fz nd hd3 ad cd l (sl.mono L03.out) hl (Lib.hid (data_len hD.out))).mono ?_
  rintro e w4 ⟨φ4, a4, c4, rfl, hi4, ho4⟩
  have H4 := Lib.hid (H3.out.call hi4)
  have L34 := Lib.hid hi4.le
  have L04 := Lib.hid (L03.out.trans hi4.le)
  have S34 := Lib.hid (S3.out.mono hi4.le)
  have SR4 := Lib.hid (sr.mono L04.out)
  have SF4 := Lib.hid (s.mono L04.out)
  have HSt : Hid (Inv bp w φ φ4 w4 ∧ Own bp φ4 w4 54 a4 c4 (chgK fs rec (recO fs l nr) l 0)) := Lib.hid ⟨H4.out, ho4.base H3.out.size⟩
  have p0 : w4.cell? ⟨bp, 0, none⟩ = some (.slice a nr cap) := (HBX.out φ4 ((L12.out.trans L23.out).trans L34.out) w4 H4.out.fz).cell 0
  clear hi4 ho4 H3 S3 H4
  go_wp2
  clear p0
  have hol : Hid ((recO fs l nr).length = nr) := Lib.hid (recO_len _ _ _)
  obtain ⟨old, hold⟩ : ∃ o, Hid (recO fs l nr = o) := ⟨_, Lib.hid rfl⟩
  have hpos := Lib.hid (chg_pos (rec := rec) hn.out OK.fld hD.out)
  rw [hold.out] at S34 HO HSt hol hpos
  clear OK
  go_loopw [13, 45] (fun v i wr => ∃ (k : Nat) (ao : Option Addr) (co m : Nat), k ≤ nr ∧ v = .slice ao m co ∧ i = .int .i64 k ∧ Hid ((chgK fs rec old l k).length = m) ∧ Hid (Inv bp w φ φ4 wr ∧ Own bp φ4 wr 54 ao co (chgK fs rec old l k))) (fun _ i _ => nr - (intOf i).toNat)
  case atStart => exact ⟨0, a4, c4, nd, Nat.zero_le _, rfl, rfl, hl, HSt⟩
  case round =>
    clear HSt
    obtain ⟨k, ao, co, mo, hk, rfl, rfl, hmo, hS⟩ := hrel
    by_cases hlt : k < nr
    · obtain ⟨b1, o1, rfl, f1⟩ := SF4.out.fldD hn hlt
      obtain ⟨a5, c5, s5, f1⟩ := f1 k hlt
      obtain ⟨_, c0, c1, c2⟩ := f1 wr hS.out.1.fz
      have HCH : Hid (chgK fs rec old l (k + 1) = chgS fs rec old (chgK fs rec old l k) k) := Lib.hid rfl
      have HCS := Lib.hid (chgS.eq_1 fs rec old (chgK fs rec old l k) k)
      have HPOS := Lib.hid (hpos.out k hlt)
      have HLN := Lib.hid (chgK_len fs rec old l k)
      rw [hmo.out, hl.out] at HLN
      clear f1
      generalize fs.getD k fld0 = x at *
      obtain ⟨nm, cs, wt⟩ := x
      dsimp only at c0 c1 c2 s5 HCS HPOS
      obtain ⟨nc, hnc⟩ : ∃ j, Hid (cs.length = j) := ⟨_, Lib.hid rfl⟩
      rw [hnc.out] at c1
      obtain ⟨b2, o2, rfl, f2⟩ := SR4.out.intsD hrl hlt
      obtain ⟨b3, o3, rfl, f3⟩ := S34.out.intsD hol hlt
      have hS1 := Lib.hid (And.intro (hS.out.1.alloc (.cells #[.string nm, .slice a5 nc c5, .int .i64 wt] 92)) (hS.out.2.alloc (.cells #[.string nm, .slice a5 nc c5, .int .i64 wt] 92)))
      have HK := Lib.hid (Blk.new wr #[.string nm, .slice a5 nc c5, .int .i64 wt] 92)
      have d1 := (f2 k hlt (wr.alloc (.cells #[.string nm, .slice a5 nc c5, .int .i64 wt] 92)) hS1.out.1.fz).2
      have d2 := (f3 k hlt (wr.alloc (.cells #[.string nm, .slice a5 nc c5, .int .i64 wt] 92)) hS1.out.1.fz).2
      have HD1 := Lib.hid (fun (W : World) (h : Fz φ4 W) => (f2 k hlt W h).2)
      generalize rec.getD k 0 = x1 at *
      generalize old.getD k 0 = x2 at *
      generalize hCK : chgK fs rec old l k = out1 at *
      clear f2 f3 hS hCK
      by_cases he : x1 = x2
      · have hb : (x1 == x2) = true := by simp [he]
        have H2 : Hid (chgK fs rec old l (k + 1) = out1) := Lib.hid (by rw [HCH.out, HCS.out, if_pos he])
        clear he
        go_wp2
        go_quiet (fail)
        go_wp2
        go_roundw
        case rel => exact ⟨k + 1, ao, co, mo, by omega, rfl, by go_num, by rw [H2.out]; exact hmo, by rw [H2.out]; exact Lib.hid ⟨hS1.out.1.drewN _, hS1.out.2.drewN _⟩⟩
        case measure => (simp [intOf] <;> omega)
      have hb : (x1 == x2) = false := by simp [he]
      rw [if_neg he] at HCS
      go_wp2
      go_quiet (fail)
      have hS2 : Hid (Inv bp w φ φ4 ((wr.alloc (.cells #[.string nm, .slice a5 nc c5, .int .i64 wt] 92)).drewN nq) ∧ Own bp φ4 ((wr.alloc (.cells #[.string nm, .slice a5 nc c5, .int .i64 wt] 92)).drewN nq) 54 ao co out1) := Lib.hid ⟨hS1.out.1.drewN _, hS1.out.2.drewN _⟩
      have HK2 : Hid (Blk ((wr.alloc (.cells #[.string nm, .slice a5 nc c5, .int .i64 wt] 92)).drewN nq) wr.heap.size #[.string nm, .slice a5 nc c5, .int .i64 wt] 92) := HK
      clear hS1 HK d1 d2
      generalize (wr.alloc (.cells #[.string nm, .slice a5 nc c5, .int .i64 wt] 92)).drewN nq = wy at *
      generalize wr.heap.size = bx at *
      have y0 : wy.cell? ⟨bx, 0, none⟩ = some (.string nm) := HK2.out.cell 0
      obtain ⟨v, hv⟩ : ∃ v, Hid (findI out1 nm = v) := ⟨_, Lib.hid rfl⟩
      rw [hv.out] at HCS HPOS
      have hcs := findI_cases out1 nm
      rw [hv.out, hmo.out] at hcs
      replace hcs := Lib.hid hcs
      obtain ⟨φ5, l5, i5, s5', _⟩ := hS2.out.2.release hS2.out.1
      have F5 := Lib.hid i5.fz
      have S5 := Lib.hid s5'
      clear l5 i5 s5'
      go_wp2_with fail
      clear y0
      refine (find_any F5.out nm mo ao co out1 S5.out hmo hv).mono ?_
      rintro e w6 ⟨rfl, hb6⟩
      have hS6 := Lib.hid (And.intro (hS2.out.1.callB hb6) (hS2.out.2.callB hb6))
      have HK6 := Lib.hid (HK2.out.callB hb6)
      have y0 : w6.cell? ⟨bx, 0, none⟩ = some (.string nm) := HK6.out.cell 0
      have d1 := HD1.out w6 hS6.out.1.fz
      clear hb6 hS2 HK2 F5 S5
      have q0 : ∀ o W, World.cell? W ⟨bx, 0, none⟩ = some (.string nm) → (World.alloc W o).cell? ⟨bx, 0, none⟩ = some (.string nm) := fun o W h => cell_alloc h
      have q1 : ∀ o W, World.cell? W ⟨b2, o2 + k, none⟩ = some (.int .i64 x1) → (World.alloc W o).cell? ⟨b2, o2 + k, none⟩ = some (.int .i64 x1) := fun o W h => cell_alloc h
      go_wp2
      go_region
      have hS7 : Hid (Inv bp w φ φ4 (w6.alloc (.cells #[.string nm, .slice none 0 0, .int .i64 4, .int .i64 x1, .string ⟨#[]⟩, .slice none 0 0] 54)).drew ∧ Own bp φ4 (w6.alloc (.cells #[.string nm, .slice none 0 0, .int .i64 4, .int .i64 x1, .string ⟨#[]⟩, .slice none 0 0] 54)).drew 54 ao co out1) := Lib.hid ⟨(hS6.out.1.alloc _).drew, (hS6.out.2.alloc _).drew⟩
      have HG : Hid (Blk (w6.alloc (.cells #[.string nm, .slice none 0 0, .int .i64 4, .int .i64 x1, .string ⟨#[]⟩, .slice none 0 0] 54)).drew w6.heap.size #[.string nm, .slice none 0 0, .int .i64 4, .int .i64 x1, .string ⟨#[]⟩, .slice none 0 0] 54) := Lib.hid (Blk.new w6 _ _)
      have HNG : Hid (∀ x, ao = some x → x.block ≠ w6.heap.size) := Lib.hid (fun x hx => by have := (hS6.out.2.lt x hx).2; omega)
      clear q0 q1 y0 d1 hS6 HK6
      generalize (w6.alloc (.cells #[.string nm, .slice none 0 0, .int .i64 4, .int .i64 x1, .string ⟨#[]⟩, .slice none 0 0] 54)).drew = w7 at *
      generalize w6.heap.size = bg at *
      have d1 := HD1.out w7 hS7.out.1.fz
      have g0 : w7.cell? ⟨bg, 0, none⟩ = some (.string nm) := HG.out.cell 0
      have g1 : w7.cell? ⟨bg, 1, none⟩ = some (.slice none 0 0) := HG.out.cell 1
      have g2 : w7.cell? ⟨bg, 2, none⟩ = some (.int .i64 4) := HG.out.cell 2
      have g3 : w7.cell? ⟨bg, 3, none⟩ = some (.int .i64 x1) := HG.out.cell 3
      have g4 : w7.cell? ⟨bg, 4, none⟩ = some (.string ⟨#[]⟩) := HG.out.cell 4
      have g5 : w7.cell? ⟨bg, 5, none⟩ = some (.slice none 0 0) := HG.out.cell 5
      have HREP : Hid (∀ φ, Rep.rep φ (newG nm x1) [.string nm, .slice none 0 0, .int .i64 4, .int .i64 x1, .string ⟨#[]⟩, .slice none 0 0]) := Lib.hid (fun φ => ⟨[.string nm, .slice none 0 0], [.int .i64 4, .int .i64 x1, .string ⟨#[]⟩, .slice none 0 0], rfl, ⟨[.string nm], [.slice none 0 0], rfl, rfl, ⟨none, 0, rfl, SlV.empty _⟩⟩, [.int .i64 4], [.int .i64 x1, .string ⟨#[]⟩, .slice none 0 0], rfl, rfl, [.int .i64 x1], [.string ⟨#[]⟩, .slice none 0 0], rfl, rfl, [.string ⟨#[]⟩], [.slice none 0 0], rfl, rfl, ⟨none, 0, rfl, SlV.empty _⟩⟩)
      have hm3 : mo ≤ 3012 := by have := HLN.out; omega
      by_cases hx0 : x1 = 0
      · have hb0 : (x1 == 0) = true := by simp [hx0]
        have hv0 := HPOS.out he hx0
        rw [if_pos hx0] at HCS
        rcases hcs.out with ⟨q1, _⟩ | ⟨i, hi, q1, _, _⟩
        · omega
        · subst q1
          rw [show ((i : Int)).toNat = i by omega] at HCS
          have HLE : Hid ((out1.eraseIdx i).length = mo - 1) := Lib.hid (by rw [List.length_eraseIdx, hmo.out, if_pos hi])
          have C0 := DeleteGiv_any (j := i + 1) (Lib.hid rfl) hS7.out.1 hS7.out.2 hmo hi
          rw [show (((i + 1 : Nat)) : Int) = (i : Int) + 1 from by omega] at C0
          have C := Lib.hid C0
          have hi3 : (i : Int) + 1 ≤ 3012 := by omega
          have hi4 : 0 ≤ (i : Int) + 1 := by omega
          clear hx0 hv0 g0 g1 g2 g3 g4 g5 he C0
          go_wp2_with (go_at_call 49; refine C.out.mono ?_; rintro e w8 ⟨rfl, hi8, ho8⟩)
          go_roundw
          case rel => exact ⟨k + 1, ao, co, mo - 1, by omega, rfl, by go_num, by rw [HCH.out, HCS.out]; exact HLE, by rw [HCH.out, HCS.out]; exact Lib.hid ⟨hi8, ho8⟩⟩
          case measure => (simp [intOf] <;> omega)
      have hb0 : (x1 == 0) = false := by simp [hx0]
      rw [if_neg hx0] at HCS
      clear hx0 he
      rcases hcs.out with ⟨q1, _⟩ | ⟨i, hi, q1, _, _⟩
      · subst q1
        rw [if_neg (by omega)] at HCS
        have hin := Lib.hid hS7.out.1
        have hon := Lib.hid hS7.out.2
        go_wp2_with (at_builtin; (refine wpList_app1F (α := Giv) rfl _ _ 43 rfl slGv hin.out ao co _ hon.out _ _ (newG nm x1) (HREP.out φ4) (by rw [hmo.out]; rfl) 1 rfl (by rw [hmo.out]; have := HLN.out; omega) ?_; intro a8 c8 w8 hi8 ho8 hg8 hf8))
        go_roundw
        case rel => exact ⟨k + 1, a8, c8, mo + 1, by omega, by rw [hmo.out], by go_num, by rw [HCH.out, HCS.out]; exact Lib.hid (by rw [List.length_append, hmo.out]; rfl), by rw [HCH.out, HCS.out]; exact Lib.hid ⟨hi8, ho8⟩⟩
        case measure => (simp [intOf] <;> omega)
      · subst q1
        rw [if_pos (by omega), show ((i : Int)).toNat = i by omega] at HCS
        obtain ⟨g, cur, hag, hB, hf, hb', hs, hlc, hmx, _⟩ := hS7.out.2.givBlk (fun e => by rw [e] at hmo; have := hmo.out; simp at this; omega)
        subst hag
        have hon := hS7.out.2
        have HP := Lib.hid (Own.put6 hS7.out.1 hon (i := i) (by rw [hmo.out]; exact hi) (HREP.out φ4))
        have h6 := Nat.mul_le_mul_right 6 hlc
        rw [hmo.out] at h6
        obtain ⟨u0, e0⟩ := Option.isSome_iff_exists.1 (hb'.isSome (j := i * 6) (by rw [hs]; omega))
        obtain ⟨u1, e1⟩ := Option.isSome_iff_exists.1 (hb'.isSome (j := i * 6 + 1) (by rw [hs]; omega))
        obtain ⟨u2, e2⟩ := Option.isSome_iff_exists.1 (hb'.isSome (j := i * 6 + 2) (by rw [hs]; omega))
        obtain ⟨u3, e3⟩ := Option.isSome_iff_exists.1 (hb'.isSome (j := i * 6 + 3) (by rw [hs]; omega))
        obtain ⟨u4, e4⟩ := Option.isSome_iff_exists.1 (hb'.isSome (j := i * 6 + 4) (by rw [hs]; omega))
        obtain ⟨u5, e5⟩ := Option.isSome_iff_exists.1 (hb'.isSome (j := i * 6 + 5) (by rw [hs]; omega))
        have f0 := hb'.frz (i * 6)
        have f1 := hb'.frz (i * 6 + 1)
        have f2 := hb'.frz (i * 6 + 2)
        have f3 := hb'.frz (i * 6 + 3)
        have f4 := hb'.frz (i * 6 + 4)
        have f5 := hb'.frz (i * 6 + 5)
        clear hb' hs hlc hmx hon h6
        go_wp2
        go_roundw
        case rel => exact ⟨k + 1, some ⟨g, 0, none⟩, co, mo, by omega, rfl, by go_num, by rw [HCH.out, HCS.out]; exact Lib.hid (by rw [List.length_set]; exact hmo.out), by rw [HCH.out, HCS.out]; exact HP⟩
        case measure => (simp [intOf] <;> omega)
    · obtain rfl : k = nr := by omega
      rw [← HO.out] at hmo hS
      obtain ⟨φ6, _, i6, s6, _⟩ := hS.out.2.release hS.out.1
      have HI6 := Lib.hid i6
      have S6 := Lib.hid s6
      clear i6 s6 hS
      go_wp2
      go_ret2
      exact ⟨φ6, ao, co, by rw [hmo.out]; rfl, by rw [hbp.out]; exact HI6.out, S6.out⟩
end Go.Proofs.YtkfmadeeobalaaaDoor
