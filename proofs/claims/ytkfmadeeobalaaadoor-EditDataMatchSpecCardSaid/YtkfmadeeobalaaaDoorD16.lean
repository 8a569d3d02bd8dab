/- The walk of the reference's Changed. Conditions: the library's tables of blanks and of powers of ten read as they were laid. -/
import Derived.Test.YtkfmadeeobalaaaDoorD15
namespace Go.Proofs.YtkfmadeeobalaaaDoor
open Go.RowKit
set_option linter.unusedVariables false
set_option maxRecDepth 100000 in
set_option maxHeartbeats 2000000 in
theorem RChanged_any
  (n : Nat) (a : Option Addr) (cap : Nat) (fs : List Fld) (m : Nat) (ae : Option Addr) (ce : Nat) (es : List Edt) (w : World) (φ : Phi) (hφ : Fz φ w) (ht : TabP φ) (hpw : PowP φ) (s : SlV φ a cap fs) (hn : Hid (fs.length = n)) (hm : n ≤ 9223372036854775807) (hg : Hid (∀ x ∈ fs, FldG x)) (se : SlV φ ae ce es) (hne : Hid (es.length = m)) (hme : m ≤ 9223372036854775807) (hge : Hid (∀ x ∈ es, EdtG x))
      (nd : Nat) (ad : Option Addr) (cd : Nat) (l : List Giv) (sl : SlV φ ad cd l) (hl : Hid (l.length = nd)) (hgl : Hid (∀ x ∈ l, x.1.1.size ≤ reachBytes))
      (nr : Nat) (a2 : Option Addr) (c2 : Nat) (rec : List Int) (sr : SlV φ a2 c2 rec) (hrl : Hid (rec.length = nr)) (hmr : nr ≤ 9223372036854775807)
    {F : Int} (hF : Hid (chgF fs es l rec = F)) {out : List Giv} (ho : Hid (chgR fs l rec F = out)) :
    Calls Tryd.prog 16 #[.agg #[.slice a n cap, .slice ae m ce], .slice ad nd cd, .slice a2 nr c2] w (GivFPost out F φ w) := by
  obtain ⟨φ1, le1, i1, k1⟩ := (Inv.start hφ).frz (.cells #[.slice a n cap, .slice ae m ce] 25)
  have H0 := Lib.hid i1
  have LE1 := Lib.hid le1
  have HBX := Lib.hid (fun (φ' : Phi) (h : φ1.le φ') (w' : World) (hf : Fz φ' w') => (hf.blk (h _ _ k1)))
  have p0 : (w.alloc (.cells #[.slice a n cap, .slice ae m ce] 25)).cell? ⟨w.heap.size, 0, none⟩ = some (.slice a n cap) := box_at 0
  have p1 : (w.alloc (.cells #[.slice a n cap, .slice ae m ce] 25)).cell? ⟨w.heap.size, 1, none⟩ = some (.slice ae m ce) := box_at 1
  obtain ⟨G, hG⟩ : ∃ G, Hid (recdF fs es l = G) := ⟨_, Lib.hid rfl⟩
  obtain ⟨old, hold0⟩ : ∃ o, Hid (recdR fs l G = o) := ⟨_, Lib.hid rfl⟩
  have C0 := Lib.hid (RRecord_any n a cap fs m ae ce es (w.alloc (.cells #[.slice a n cap, .slice ae m ce] 25)) φ1 i1.fz (ht.mono le1) (hpw.mono le1) (s.mono le1) hn hm hg (se.mono le1) hne hme hge nd ad cd l (sl.mono le1) hl hgl hG hold0)
  clear i1 le1 k1 ht hpw
  go_enter Tryd.func16, Tryd.ntmps16
  go_wp2_with fail
  clear p0 p1
  generalize hbp : w.heap.size = bp at *
  replace hbp := Lib.hid hbp
  refine C0.out.mono ?_
  rintro e w2 ⟨φ2, a3, c3, rfl, hi1, s3⟩
  have H2 := Lib.hid (H0.out.call hi1)
  have L12 := Lib.hid hi1.le
  have L02 := Lib.hid (LE1.out.trans L12.out)
  have S3 := Lib.hid s3
  clear hi1 s3 H0 C0
  by_cases hz : G = 0
  case neg =>
    have hzz : (G != 0) = true := by simp [hz]
    have HF : Hid (F = G) := Lib.hid (by
      have h1 := hG.out
      rw [← hF.out, chgF]
      unfold recdF at h1
      split at h1
      · next q => rw [if_pos q]; exact h1
      · next q => rw [if_neg q, if_pos (by rw [h1]; exact hz)]; exact h1)
    have HO : Hid (out = []) := Lib.hid (by rw [← ho.out, chgR, HF.out, if_neg hz])
    clear hz
    go_wp2
    go_ret2
    obtain rfl := HF.out
    obtain rfl := HO.out
    exact ⟨_, none, 0, rfl, by rw [hbp.out]; exact H2.out, SlV.empty _⟩
  subst hz
  have hP : planF fs es = 0 ∧ dataF l = 0 := by
    have h1 := hG.out
    unfold recdF at h1
    split at h1
    · next q => exact absurd h1 q
    · next q => exact ⟨by simpa using q, h1⟩
  have hD := Lib.hid hP.2
  have HF0 : Hid (recF n rec = F) := Lib.hid (by rw [← hF.out, chgF, if_neg (by rw [hP.1]; simp), if_neg (by rw [hP.2]; simp), hn.out])
  have OK := planF_zero hP.1
  rw [hn.out, hne.out] at OK
  have hn12 := OK.pos.2
  have hold : Hid (recO fs l n = old) := Lib.hid (by rw [← hold0.out, recdR, if_pos rfl, hn.out])
  have p0 : w2.cell? ⟨bp, 0, none⟩ = some (.slice a n cap) := (HBX.out φ2 L12.out w2 H2.out.fz).cell 0
  have p1 : w2.cell? ⟨bp, 1, none⟩ = some (.slice ae m ce) := (HBX.out φ2 L12.out w2 H2.out.fz).cell 1
  clear hP hG hF
  go_wp2_with fail
  clear p0 p1
  refine (RcheckRecord_any n a cap fs m ae ce es w2 φ2 H2.out.fz (s.mono L02.out) (se.mono L02.out) hn nr a2 c2 rec (sr.mono L02.out) hrl hmr HF0).mono ?_
  rintro e w3 ⟨rfl, hb3⟩
  have H3 := Lib.hid (H2.out.callB hb3)
  clear hb3 H2
  by_cases hz : F = 0
  case neg =>
    have hzz : (F != 0) = true := by simp [hz]
    have HO : Hid (out = []) := Lib.hid (by rw [← ho.out, chgR, if_neg hz])
    clear hz
    go_wp2
    go_ret2
    obtain rfl := HO.out
    exact ⟨_, none, 0, rfl, by rw [hbp.out]; exact H3.out, SlV.empty _⟩
  subst hz
  obtain rfl : nr = n := by rw [← hrl.out, recF_len HF0.out]
  have HO : Hid (out = chgK fs rec (recO fs l nr) l nr) := Lib.hid (by rw [← ho.out, chgR, if_pos rfl, hn.out])
  have hd3 : nd ≤ 3000 := by
    have h := hD.out
    unfold dataF at h
    rw [hl.out] at h
    split at h
    · cases h
    · omega
  have hol : Hid (old.length = nr) := Lib.hid (by rw [← hold.out]; exact recO_len _ _ _)
  rw [hol.out]
  go_wp2_with fail
  refine (CloneGiv_any H3.out.fz (sl.mono L02.out) hl (by omega)).mono ?_
  rintro e w4 ⟨φ4, a4, c4, rfl, hi4, ho4⟩
  have H4 := Lib.hid (H3.out.call hi4)
  have L24 := Lib.hid hi4.le
  have L04 := Lib.hid (L02.out.trans hi4.le)
  have S34 := Lib.hid (S3.out.mono hi4.le)
  have SR4 := Lib.hid (sr.mono L04.out)
  have SF4 := Lib.hid (s.mono L04.out)
  have HSt : Hid (Inv bp w φ φ4 w4 ∧ Own bp φ4 w4 54 a4 c4 (chgK fs rec (recO fs l nr) l 0)) := Lib.hid ⟨H4.out, ho4.base H3.out.size⟩
  have p0 : w4.cell? ⟨bp, 0, none⟩ = some (.slice a nr cap) := (HBX.out φ4 (L12.out.trans L24.out) w4 H4.out.fz).cell 0
  clear hi4 ho4 H3 S3 H4
  go_wp2
  clear p0
  have hpos := Lib.hid (chg_pos (rec := rec) hn.out OK.fld hD.out)
  rw [hold.out] at HO HSt hpos
  clear OK
  go_loopw [11, 36] (fun v i wr => ∃ (k : Nat) (ao : Option Addr) (co m : Nat), k ≤ nr ∧ v = .slice ao m co ∧ i = .int .i64 k ∧ Hid ((chgK fs rec old l k).length = m) ∧ Hid (Inv bp w φ φ4 wr ∧ Own bp φ4 wr 54 ao co (chgK fs rec old l k))) (fun _ i _ => nr - (intOf i).toNat)
  case atStart => exact ⟨0, a4, c4, nd, Nat.zero_le _, rfl, rfl, hl, HSt⟩
  case round =>
    clear HSt
    obtain ⟨k, ao, co, mo, hk, rfl, rfl, hmo, hS⟩ := hrel
    by_cases hlt : k < nr
    · obtain ⟨b1, o1, rfl, f1⟩ := SF4.out.fldD hn hlt
      obtain ⟨a5, c5, s5, f1⟩ := f1 k hlt
      obtain ⟨_, c0, c1, c2⟩ := f1 wr hS.out.1.fz
      have HCH : Hid (chgK fs rec old l (k + 1) = chgS fs rec old (chgK fs rec old l k) k) := Lib.hid rfl
      have HCS := Lib.hid (chgS.eq_1 fs rec old (chgK fs rec old l k) k)
      have HPOS := Lib.hid (hpos.out k hlt)
      have HLN := Lib.hid (chgK_len fs rec old l k)
      rw [hmo.out, hl.out] at HLN
      clear f1
      generalize fs.getD k fld0 = x at *
      obtain ⟨nm, cs, wt⟩ := x
      dsimp only at c0 c1 c2 s5 HCS HPOS
      obtain ⟨nc, hnc⟩ : ∃ j, Hid (cs.length = j) := ⟨_, Lib.hid rfl⟩
      rw [hnc.out] at c1
      obtain ⟨b2, o2, rfl, f2⟩ := SR4.out.intsD hrl hlt
      obtain ⟨b3, o3, rfl, f3⟩ := S34.out.intsD hol hlt
      have hS1 := Lib.hid (And.intro (hS.out.1.alloc (.cells #[.string nm, .slice a5 nc c5, .int .i64 wt] 92)) (hS.out.2.alloc (.cells #[.string nm, .slice a5 nc c5, .int .i64 wt] 92)))
      have HK := Lib.hid (Blk.new wr #[.string nm, .slice a5 nc c5, .int .i64 wt] 92)
      have d1 := (f2 k hlt (wr.alloc (.cells #[.string nm, .slice a5 nc c5, .int .i64 wt] 92)) hS1.out.1.fz).2
      have d2 := (f3 k hlt (wr.alloc (.cells #[.string nm, .slice a5 nc c5, .int .i64 wt] 92)) hS1.out.1.fz).2
      have HD1 := Lib.hid (fun (W : World) (h : Fz φ4 W) => (f2 k hlt W h).2)
      generalize rec.getD k 0 = x1 at *
      generalize old.getD k 0 = x2 at *
      generalize hCK : chgK fs rec old l k = out1 at *
      clear f2 f3 hS hCK
      by_cases he : x1 = x2
      · have hb : (x1 == x2) = true := by simp [he]
        have H2 : Hid (chgK fs rec old l (k + 1) = out1) := Lib.hid (by rw [HCH.out, HCS.out, if_pos he])
        clear he
        go_wp2
        go_quiet (fail)
        go_wp2
        go_roundw
        case rel => exact ⟨k + 1, ao, co, mo, by omega, rfl, by go_num, by rw [H2.out]; exact hmo, by rw [H2.out]; exact Lib.hid ⟨hS1.out.1.drewN _, hS1.out.2.drewN _⟩⟩
        case measure => (simp [intOf] <;> omega)
      have hb : (x1 == x2) = false := by simp [he]
      rw [if_neg he] at HCS
      go_wp2
      go_quiet (fail)
      have hS2 : Hid (Inv bp w φ φ4 ((wr.alloc (.cells #[.string nm, .slice a5 nc c5, .int .i64 wt] 92)).drewN nq) ∧ Own bp φ4 ((wr.alloc (.cells #[.string nm, .slice a5 nc c5, .int .i64 wt] 92)).drewN nq) 54 ao co out1) := Lib.hid ⟨hS1.out.1.drewN _, hS1.out.2.drewN _⟩
      have HK2 : Hid (Blk ((wr.alloc (.cells #[.string nm, .slice a5 nc c5, .int .i64 wt] 92)).drewN nq) wr.heap.size #[.string nm, .slice a5 nc c5, .int .i64 wt] 92) := HK
      clear hS1 HK d1 d2
      generalize (wr.alloc (.cells #[.string nm, .slice a5 nc c5, .int .i64 wt] 92)).drewN nq = wy at *
      generalize wr.heap.size = bx at *
      have y0 : wy.cell? ⟨bx, 0, none⟩ = some (.string nm) := HK2.out.cell 0
      have d1 := HD1.out wy hS2.out.1.fz
      obtain ⟨v, hv⟩ : ∃ v, Hid (findI out1 nm = v) := ⟨_, Lib.hid rfl⟩
      rw [hv.out] at HCS HPOS
      have hcs := findI_cases out1 nm
      rw [hv.out, hmo.out] at hcs
      replace hcs := Lib.hid hcs
      have q0 : ∀ o W, World.cell? W ⟨bx, 0, none⟩ = some (.string nm) → (World.alloc W o).cell? ⟨bx, 0, none⟩ = some (.string nm) := fun o W h => cell_alloc h
      have q1 : ∀ o W, World.cell? W ⟨b2, o2 + k, none⟩ = some (.int .i64 x1) → (World.alloc W o).cell? ⟨b2, o2 + k, none⟩ = some (.int .i64 x1) := fun o W h => cell_alloc h
      go_wp2
      go_region
      have hS3 : Hid (Inv bp w φ φ4 (wy.alloc (.cells #[.string nm, .slice none 0 0, .int .i64 4, .int .i64 x1, .string ⟨#[]⟩, .slice none 0 0] 54)).drew ∧ Own bp φ4 (wy.alloc (.cells #[.string nm, .slice none 0 0, .int .i64 4, .int .i64 x1, .string ⟨#[]⟩, .slice none 0 0] 54)).drew 54 ao co out1) := Lib.hid ⟨(hS2.out.1.alloc _).drew, (hS2.out.2.alloc _).drew⟩
      have HG3 : Hid (Blk (wy.alloc (.cells #[.string nm, .slice none 0 0, .int .i64 4, .int .i64 x1, .string ⟨#[]⟩, .slice none 0 0] 54)).drew wy.heap.size #[.string nm, .slice none 0 0, .int .i64 4, .int .i64 x1, .string ⟨#[]⟩, .slice none 0 0] 54) := Lib.hid (Blk.new wy _ _)
      have HK3 : Hid (Blk (wy.alloc (.cells #[.string nm, .slice none 0 0, .int .i64 4, .int .i64 x1, .string ⟨#[]⟩, .slice none 0 0] 54)).drew bx #[.string nm, .slice a5 nc c5, .int .i64 wt] 92) := Lib.hid (HK2.out.alloc _)
      clear q0 q1 y0 d1 hS2 HK2
      generalize (wy.alloc (.cells #[.string nm, .slice none 0 0, .int .i64 4, .int .i64 x1, .string ⟨#[]⟩, .slice none 0 0] 54)).drew = wz at *
      generalize wy.heap.size = bg at *
      have y0 : wz.cell? ⟨bx, 0, none⟩ = some (.string nm) := HK3.out.cell 0
      obtain ⟨φ5, l5, i5, s5', _⟩ := hS3.out.2.release hS3.out.1
      have F5 := Lib.hid i5.fz
      have S5 := Lib.hid s5'
      clear l5 i5 s5'
      go_wp2_with fail
      clear y0
      refine (element_any F5.out nm mo ao co out1 S5.out hmo hv).mono ?_
      rintro e w7 ⟨rfl, hb7⟩
      have hS7 := Lib.hid (And.intro (hS3.out.1.callB hb7) (hS3.out.2.callB hb7))
      have HG := Lib.hid (HG3.out.callB hb7)
      clear hb7 hS3 HK3 HG3 F5 S5
      have d1 := HD1.out w7 hS7.out.1.fz
      have g0 : w7.cell? ⟨bg, 0, none⟩ = some (.string nm) := HG.out.cell 0
      have g1 : w7.cell? ⟨bg, 1, none⟩ = some (.slice none 0 0) := HG.out.cell 1
      have g2 : w7.cell? ⟨bg, 2, none⟩ = some (.int .i64 4) := HG.out.cell 2
      have g3 : w7.cell? ⟨bg, 3, none⟩ = some (.int .i64 x1) := HG.out.cell 3
      have g4 : w7.cell? ⟨bg, 4, none⟩ = some (.string ⟨#[]⟩) := HG.out.cell 4
      have g5 : w7.cell? ⟨bg, 5, none⟩ = some (.slice none 0 0) := HG.out.cell 5
      have HREP : Hid (∀ φ, Rep.rep φ (newG nm x1) [.string nm, .slice none 0 0, .int .i64 4, .int .i64 x1, .string ⟨#[]⟩, .slice none 0 0]) := Lib.hid (fun φ => ⟨[.string nm, .slice none 0 0], [.int .i64 4, .int .i64 x1, .string ⟨#[]⟩, .slice none 0 0], rfl, ⟨[.string nm], [.slice none 0 0], rfl, rfl, ⟨none, 0, rfl, SlV.empty _⟩⟩, [.int .i64 4], [.int .i64 x1, .string ⟨#[]⟩, .slice none 0 0], rfl, rfl, [.int .i64 x1], [.string ⟨#[]⟩, .slice none 0 0], rfl, rfl, [.string ⟨#[]⟩], [.slice none 0 0], rfl, rfl, ⟨none, 0, rfl, SlV.empty _⟩⟩)
      have hm3 : mo ≤ 3012 := by have := HLN.out; omega
      by_cases hx0 : x1 = 0
      · have hb0 : (x1 == 0) = true := by simp [hx0]
        have hv0 := HPOS.out he hx0
        rw [if_pos hx0] at HCS
        rcases hcs.out with ⟨q1, _⟩ | ⟨i, hi, q1, _, _⟩
        · omega
        · subst q1
          have hng : ¬ ((i : Int) < 0) := by omega
          rw [show ((i : Int)).toNat = i by omega] at HCS
          have HLE : Hid ((out1.eraseIdx i).length = mo - 1) := Lib.hid (by rw [List.length_eraseIdx, hmo.out, if_pos hi])
          have C0 := DeleteGiv_any (j := i + 1) (Lib.hid rfl) hS7.out.1 hS7.out.2 hmo hi
          rw [show (((i + 1 : Nat)) : Int) = (i : Int) + 1 from by omega] at C0
          have C := Lib.hid C0
          have hi3 : (i : Int) + 1 ≤ 3012 := by omega
          have hi4 : 0 ≤ (i : Int) + 1 := by omega
          clear hx0 hv0 g0 g1 g2 g3 g4 g5 he C0
          go_wp2_with (go_at_call 49; refine C.out.mono ?_; rintro e w8 ⟨rfl, hi8, ho8⟩)
          go_roundw
          case rel => exact ⟨k + 1, ao, co, mo - 1, by omega, rfl, by go_num, by rw [HCH.out, HCS.out]; exact HLE, by rw [HCH.out, HCS.out]; exact Lib.hid ⟨hi8, ho8⟩⟩
          case measure => (simp [intOf] <;> omega)
      have hb0 : (x1 == 0) = false := by simp [hx0]
      rw [if_neg hx0] at HCS
      clear hx0 he
      rcases hcs.out with ⟨q1, _⟩ | ⟨i, hi, q1, _, _⟩
      · subst q1
        rw [if_neg (by omega)] at HCS
        have hin := Lib.hid hS7.out.1
        have hon := Lib.hid hS7.out.2
        go_wp2_with (at_builtin; (refine wpList_app1F (α := Giv) rfl _ _ 43 rfl slGv hin.out ao co _ hon.out _ _ (newG nm x1) (HREP.out φ4) (by rw [hmo.out]; rfl) 1 rfl (by rw [hmo.out]; have := HLN.out; omega) ?_; intro a8 c8 w8 hi8 ho8 hg8 hf8))
        go_roundw
        case rel => exact ⟨k + 1, a8, c8, mo + 1, by omega, by rw [hmo.out], by go_num, by rw [HCH.out, HCS.out]; exact Lib.hid (by rw [List.length_append, hmo.out]; rfl), by rw [HCH.out, HCS.out]; exact Lib.hid ⟨hi8, ho8⟩⟩
        case measure => (simp [intOf] <;> omega)
      · subst q1
        rw [if_pos (by omega), show ((i : Int)).toNat = i by omega] at HCS
        obtain ⟨g, cur, hag, hB, hf, hb', hs, hlc, hmx, _⟩ := hS7.out.2.givBlk (fun e => by rw [e] at hmo; have := hmo.out; simp at this; omega)
        subst hag
        have hon := hS7.out.2
        have HP := Lib.hid (Own.put6 hS7.out.1 hon (i := i) (by rw [hmo.out]; exact hi) (HREP.out φ4))
        have h6 := Nat.mul_le_mul_right 6 hlc
        rw [hmo.out] at h6
        obtain ⟨u0, e0⟩ := Option.isSome_iff_exists.1 (hb'.isSome (j := i * 6) (by rw [hs]; omega))
        obtain ⟨u1, e1⟩ := Option.isSome_iff_exists.1 (hb'.isSome (j := i * 6 + 1) (by rw [hs]; omega))
        obtain ⟨u2, e2⟩ := Option.isSome_iff_exists.1 (hb'.isSome (j := i * 6 + 2) (by rw [hs]; omega))
        obtain ⟨u3, e3⟩ := Option.isSome_iff_exists.1 (hb'.isSome (j := i * 6 + 3) (by rw [hs]; omega))
        obtain ⟨u4, e4⟩ := Option.isSome_iff_exists.1 (hb'.isSome (j := i * 6 + 4) (by rw [hs]; omega))
        obtain ⟨u5, e5⟩ := Option.isSome_iff_exists.1 (hb'.isSome (j := i * 6 + 5) (by rw [hs]; omega))
        have f0 := hb'.frz (i * 6)
        have f1 := hb'.frz (i * 6 + 1)
        have f2 := hb'.frz (i * 6 + 2)
        have f3 := hb'.frz (i * 6 + 3)
        have f4 := hb'.frz (i * 6 + 4)
        have f5 := hb'.frz (i * 6 + 5)
        clear hb' hs hlc hmx hon h6
        go_wp2
        go_roundw
        case rel => exact ⟨k + 1, some ⟨g, 0, none⟩, co, mo, by omega, rfl, by go_num, by rw [HCH.out, HCS.out]; exact Lib.hid (by rw [List.length_set]; exact hmo.out), by rw [HCH.out, HCS.out]; exact HP⟩
        case measure => (simp [intOf] <;> omega)
    · obtain rfl : k = nr := by omega
      rw [← HO.out] at hmo hS
      obtain ⟨φ6, _, i6, s6, _⟩ := hS.out.2.release hS.out.1
      have HI6 := Lib.hid i6
      have S6 := Lib.hid s6
      clear i6 s6 hS
      go_wp2
      go_ret2
      exact ⟨φ6, ao, co, by rw [hmo.out]; rfl, by rw [hbp.out]; exact HI6.out, S6.out⟩
end Go.Proofs.YtkfmadeeobalaaaDoor
