/- The walk of the reference's CheckPlan. Conditions: the library's table of blanks reads as it was laid. -/
import Derived.Test.YtambgcijceecpaaDoorQ2
import Derived.StillTailTactics
namespace Go.Proofs.YtambgcijceecpaaDoor
open Go.RowKit
set_option linter.unusedVariables false

theorem SlV.take {α : Type} [Rep α] {φ : Phi} {a : Option Addr} {cap : Nat} {xs : List α} (h : SlV φ a cap xs) (k : Nat) : SlV φ a cap (xs.take k) :=
  ⟨by have := h.capn; rw [List.length_take]; omega, h.capm, h.nil, fun hne => by
    obtain ⟨b, off, ha, hc⟩ := h.at_ (by intro e; subst e; simp at hne)
    refine ⟨b, off, ha, fun j hj => ?_⟩
    rw [List.length_take] at hj
    obtain ⟨cs, h1, h2⟩ := hc j (by omega)
    exact ⟨cs, by rw [List.getElem_take]; exact h1, h2⟩⟩
/-- The product of the sizes, up to a bound. -/
def mixK (fs : List Fld) : Nat → Nat
  | 0 => 1
  | k + 1 => min (mixK fs k * (fs.getD k fld0).2.1.length) 20001
theorem mixK_le (fs : List Fld) : ∀ k, mixK fs k ≤ 20001
  | 0 => by simp [mixK]
  | k + 1 => Nat.min_le_right _ _
theorem mixK_eq {fs : List Fld} : ∀ {k : Nat}, (∀ i, i < k → 0 < (fs.getD i fld0).2.1.length) → mixK fs k = min (prodK fs k) 20001
  | 0, _ => by simp [mixK, prodK]
  | k + 1, h => by
    have ih := mixK_eq (k := k) (fun i hi => h i (by omega))
    have hl := h k (by omega)
    rw [mixK, ih, prodK]
    by_cases hp : prodK fs k ≤ 20001
    · rw [Nat.min_eq_left hp]
    · rw [Nat.min_eq_right (by omega : 20001 ≤ prodK fs k)]
      have h1 : 20001 ≤ 20001 * (fs.getD k fld0).2.1.length := Nat.le_mul_of_pos_right _ hl
      have h2 : 20001 ≤ prodK fs k * (fs.getD k fld0).2.1.length := Nat.le_trans (by omega : 20001 ≤ prodK fs k) (Nat.le_mul_of_pos_right _ hl)
      omega
theorem mix_iff {fs : List Fld} {n : Nat} (h : ∀ i, i < n → 0 < (fs.getD i fld0).2.1.length) : 20000 < mixK fs n ↔ 20000 < prodK fs n := by
  rw [mixK_eq h]; omega
set_option maxRecDepth 100000 in
set_option maxHeartbeats 2000000 in
theorem RCheckPlan_any
  (n : Nat) (a : Option Addr) (cap : Nat) (fs : List Fld) (m : Nat) (ae : Option Addr) (ce : Nat) (es : List Edt) (w : World) (φ : Phi) (hφ : Fz φ w) (ht : TabP φ) (s : SlV φ a cap fs) (hn : Hid (fs.length = n)) (hm : n ≤ 9223372036854775807) (hg : Hid (∀ x ∈ fs, FldG x)) (se : SlV φ ae ce es) (hne : Hid (es.length = m)) (hme : m ≤ 9223372036854775807) (hge : Hid (∀ x ∈ es, EdtG x))
    {q : Int} (hq : Hid (planF fs es = q)) :
    Calls Tryd.prog 28 #[.agg #[.slice a n cap, .slice ae m ce]] w (IntB q w) := by
  have hS0 := Lib.hid (BxSt.new hφ #[.slice a n cap, .slice ae m ce] 25)
  have hTT := Lib.hid ht
  clear ht
  by_cases z : n = 0
  · have Z := Lib.hid z
    have zb : ((n : Int) == 0) = true := by simp [z]
    clear z
    go_enter Tryd.func28, Tryd.ntmps28
    go_wp2
    go_ret
    have h9 : fieldsF fs = 9 := by rw [fieldsF, hn.out, if_pos Z.out]
    exact ⟨ret_int (by rw [← hq.out, planF, if_pos (by rw [h9]; decide), h9]), hS0.out.bel⟩
  have zb : ((n : Int) == 0) = false := by simp; omega
  by_cases hl : 12 < n
  · have z := Lib.hid z
    go_enter Tryd.func28, Tryd.ntmps28
    go_wp2
    go_ret
    have h9 : fieldsF fs = 2 := by rw [fieldsF, hn.out, if_neg z.out, if_pos hl]
    exact ⟨ret_int (by rw [← hq.out, planF, if_pos (by rw [h9]; decide), h9]), hS0.out.bel⟩
  have h0 : 0 < n := by omega
  have z := Lib.hid z
  go_enter Tryd.func28, Tryd.ntmps28
  go_wp2
  clear zb
  generalize hW : w.alloc (.cells #[.slice a n cap, .slice ae m ce] 25) = W at *
  generalize hbx : w.heap.size = bx at *
  replace hbx := Lib.hid hbx
  replace hW := Lib.hid hW
  go_loopw [3, 23] (fun mm i wr => ∃ k : Nat, k ≤ n ∧ mm = .int .i64 (mixK fs k : Nat) ∧ i = .int .i64 k ∧ Hid (∀ i, i < k → fldBad fs i = 0) ∧ Hid (BxSt w φ bx #[.slice a n cap, .slice ae m ce] 25 wr)) (fun _ i _ => n - (intOf i).toNat)
  case atStart => exact ⟨0, Nat.zero_le _, rfl, rfl, none_yet _, hS0⟩
  case round =>
    clear hS0
    obtain ⟨k, hk, rfl, rfl, hok, hS⟩ := hrel
    by_cases hlt : k < n
    · obtain ⟨b1, o1, rfl, f1⟩ := s.fldD hn hlt
      obtain ⟨a3, c3, s3, f1⟩ := f1 k hlt
      obtain ⟨_, d1, d2, d3⟩ := f1 wr hS.out.fz
      have hbad := Lib.hid (fldBad_rf (fs := fs) (k := k))
      have hgk := hg.out (fs.getD k fld0) (by rw [getD_elem0 _ _ _ (by rw [hn.out]; exact hlt)]; exact List.getElem_mem _)
      have hmx : Hid (mixK fs (k + 1) = min (mixK fs k * (fs.getD k fld0).2.1.length) 20001) := Lib.hid rfl
      have hml := mixK_le fs k
      clear f1
      generalize fs.getD k fld0 = X at *
      obtain ⟨nk, ck, wk⟩ := X
      dsimp only at d1 d2 d3 hbad hgk hmx s3
      obtain ⟨nc, hnc⟩ : ∃ j, Hid (ck.length = j) := ⟨_, Lib.hid rfl⟩
      rw [hnc.out] at d2 hmx
      have l1 := s3.capn
      have l2 := s3.capm
      rw [hnc.out] at l1
      unfold maxLen at l2
      have hgk' : nk.size ≤ reachBytes := hgk
      have hSa := Lib.hid (hS.out.alloc (.cells #[.string nk, .slice a3 nc c3, .int .i64 wk] 87))
      have hNb := Lib.hid (Blk.new wr #[.string nk, .slice a3 nc c3, .int .i64 wk] 87)
      have hcp := s.capn
      rw [hn.out] at hcp
      have hcm := s.capm
      unfold maxLen at hcm
      have htk : Hid ((fs.take k).length = k) := Lib.hid (by rw [List.length_take, hn.out]; omega)
      have stk := s.take k
      obtain ⟨q1, hq1⟩ : ∃ j, Hid (rfB nk ck wk (fs.take k) = j) := ⟨_, Lib.hid rfl⟩
      rw [hq1.out] at hbad
      generalize mixK fs k = mk at *
      go_wp2
      generalize wr.alloc (.cells #[.string nk, .slice a3 nc c3, .int .i64 wk] 87) = wy at *
      generalize wr.heap.size = bn at *
      have y0 : wy.cell? ⟨bn, 0, none⟩ = some (.string nk) := hNb.out.cell 0
      have y1 : wy.cell? ⟨bn, 1, none⟩ = some (.slice a3 nc c3) := hNb.out.cell 1
      have y2 : wy.cell? ⟨bn, 2, none⟩ = some (.int .i64 wk) := hNb.out.cell 2
      have y3 : wy.cell? ⟨bx, 0, none⟩ = some (.slice (some ⟨b1, o1, none⟩) n cap) := hSa.out.k.cell 0
      refine wp_region_still_tail 5 (by kernel_rfl) (by kernel_rfl) ?_
      simp only [List.take_succ_cons, List.take_zero, List.drop_succ_cons, List.drop_zero]
      change wpStill _ _ (World.drew wy) (fun a' => wpList _ _ _ _ a' (World.drew wy)) _ _
      have hSz := Lib.hid (hSa.out.callB (bdrewN (Below.refl wy.heap.size wy) 1))
      have hNz : Hid (Blk wy.drew bn #[.string nk, .slice a3 nc c3, .int .i64 wk] 87) := hNb
      clear y0 y1 y2 y3 hSa hNb
      change Hid (BxSt w φ bx #[.slice (some ⟨b1, o1, none⟩) n cap, .slice ae m ce] 25 wy.drew) at hSz
      generalize wy.drew = wz at *
      have y0 : wz.cell? ⟨bn, 0, none⟩ = some (.string nk) := hNz.out.cell 0
      have y1 : wz.cell? ⟨bn, 1, none⟩ = some (.slice a3 nc c3) := hNz.out.cell 1
      have y2 : wz.cell? ⟨bn, 2, none⟩ = some (.int .i64 wk) := hNz.out.cell 2
      have y3 : wz.cell? ⟨bx, 0, none⟩ = some (.slice (some ⟨b1, o1, none⟩) n cap) := hSz.out.k.cell 0
      have hkc : k ≤ cap := by omega
      repeat still_step
      refine wpStill_nil ?_
      go_wp2_with fail
      refine (checkField_any nk nc a3 c3 ck wk _ φ hSz.out.fz hTT.out s3 hnc (by omega) hgk' k (some ⟨b1, o1, none⟩) cap (fs.take k) stk htk (by omega) hq1).mono ?_
      rintro e w5 ⟨rfl, hb5⟩
      have hS5 := Lib.hid (hSz.out.callB hb5)
      have y5 : w5.cell? ⟨bn, 1, none⟩ = some (.slice a3 nc c3) := (hNz.out.callB hb5).cell 1
      clear hb5 y0 y1 y2 y3 d1 d2 d3 hSz hNz
      by_cases hz : q1 = 0
      · subst hz
        have hncb : nc ≤ 20 := by
          have h := hq1.out
          unfold rfB at h
          split at h
          · cases h
          · split at h
            · cases h
            · have := (fieldF_zero h).2.1
              rw [hnc.out] at this
              exact this
        have hpb : mk * nc ≤ 400020 := Nat.le_trans (Nat.mul_le_mul hml hncb) (by decide)
        have hpc : ((mk * nc : Nat) : Int) = (mk : Int) * nc := by simp
        have hw0 : IntKind.i64.wrap ((mk : Int) * nc) = ((mk * nc : Nat) : Int) := by rw [hpc]; exact IntWalk.i64_in _ (by rw [← hpc]; omega)
        generalize hmq : mk * nc = mm at *
        replace hmq := Lib.hid hmq
        clear hpc hncb hml
        have hw1 : IntKind.i64.wrap ((mk : Int) * nc) = (mm : Int) := hw0
        clear hw0
        go_wp2
        go_roundw
        case rel => exact ⟨k + 1, by omega, by rw [hmx.out]; exact congrArg (Value.int .i64) (by omega), by go_num, next_ok hok hbad.out, hS5⟩
        case measure => simp [intOf]; omega
      · have hzz : (q1 != 0) = true := by simp [hz]
        have HZ := Lib.hid hz
        clear hz
        go_wp2
        go_ret
        have hf : fieldsF fs = q1 := fieldsF_at hn h0 (by omega) hlt hok hbad.out HZ.out
        exact ⟨ret_int (by rw [← hq.out, planF, if_pos (by rw [hf]; exact HZ.out), hf]), by rw [hbx.out]; have h := hS5.out.bel; rw [hbx.out] at h; exact h⟩
    · obtain rfl : k = n := by omega
      have hmi := mix_iff (fs := fs) (n := k) (fun i hi => (flds_pos hok i hi).1)
      have hfm := fieldsF_mix hn h0 (by omega) hok
      have e0 : wr.cell? ⟨bx, 0, none⟩ = some (.slice a k cap) := hS.out.k.cell 0
      have e1 : wr.cell? ⟨bx, 1, none⟩ = some (.slice ae m ce) := hS.out.k.cell 1
      have hB := Lib.hid hS.out.bel
      rw [hbx.out] at hB
      by_cases hbig : 20000 < mixK fs k
      · have hf : Hid (fieldsF fs = 2) := Lib.hid (by rw [hfm, if_pos (hmi.1 hbig)])
        have hdb : decide ((20000 : Int) < (mixK fs k : Nat)) = true := decide_eq_true (by omega)
        clear hmi hfm
        go_wp2
        go_ret
        exact ⟨ret_int (by rw [← hq.out, planF, if_pos (by rw [hf.out]; decide), hf.out]), by rw [hbx.out]; exact hB.out⟩
      have hf : Hid (fieldsF fs = 0) := Lib.hid (by rw [hfm, if_neg (fun h => hbig (hmi.2 h))])
      have hdb : decide ((20000 : Int) < (mixK fs k : Nat)) = false := decide_eq_false (by omega)
      clear hmi hfm hbig
      generalize mixK fs k = mk at *
      by_cases hm60 : 60 < m
      · have hd2 : decide ((60 : Int) < (m : Nat)) = true := decide_eq_true (by omega)
        go_wp2
        go_ret
        exact ⟨ret_int (by rw [← hq.out, planF, if_neg (by rw [hf.out]; simp), if_pos (by rw [hne.out]; exact hm60)]), by rw [hbx.out]; exact hB.out⟩
      have hd2 : decide ((60 : Int) < (m : Nat)) = false := decide_eq_false (by omega)
      clear hB
      go_wp2
      clear hdb hd2 e0 e1
      go_loopw [55] (fun i wr => ∃ j : Nat, j ≤ m ∧ i = .int .i64 j ∧ Hid (∀ i, i < j → edtBad fs es i = 0) ∧ Hid (BxSt w φ bx #[.slice a k cap, .slice ae m ce] 25 wr)) (fun i _ => m - (intOf i).toNat)
      case atStart => exact ⟨0, Nat.zero_le _, rfl, none_yet _, hS⟩
      case round =>
        clear hS
        obtain ⟨j, hj, rfl, hok2, hS⟩ := hrel
        by_cases hlt2 : j < m
        · obtain ⟨b1, o1, rfl, f1⟩ := se.edtD hne hlt2
          obtain ⟨a3, c3, s3, f1⟩ := f1 j hlt2
          obtain ⟨_, d1, d2⟩ := f1 wr hS.out.fz
          have hbad := Lib.hid (edtBad_re (fs := fs) (es := es) (k := j))
          have hgk := hge.out (es.getD j edt0) (by rw [getD_elem0 _ _ _ (by rw [hne.out]; exact hlt2)]; exact List.getElem_mem _)
          clear f1
          generalize es.getD j edt0 = X at *
          obtain ⟨nk, ck⟩ := X
          dsimp only at d1 d2 hbad hgk s3
          obtain ⟨nc, hnc⟩ : ∃ j, Hid (ck.length = j) := ⟨_, Lib.hid rfl⟩
          rw [hnc.out] at d2
          have l1 := s3.capn
          have l2 := s3.capm
          rw [hnc.out] at l1
          unfold maxLen at l2
          have hgk' : nk.size ≤ reachBytes := hgk
          have hSa := Lib.hid (hS.out.alloc (.cells #[.string nk, .slice a3 nc c3] 95))
          have hNb := Lib.hid (Blk.new wr #[.string nk, .slice a3 nc c3] 95)
          have hcp := se.capn
          rw [hne.out] at hcp
          have htk : Hid ((es.take j).length = j) := Lib.hid (by rw [List.length_take, hne.out]; omega)
          have stk := se.take j
          obtain ⟨q1, hq1⟩ : ∃ v, Hid (reB nk ck (es.take j) fs = v) := ⟨_, Lib.hid rfl⟩
          rw [hq1.out] at hbad
          go_wp2
          generalize wr.alloc (.cells #[.string nk, .slice a3 nc c3] 95) = wy at *
          generalize wr.heap.size = bn at *
          refine wp_region_still_tail 7 (by kernel_rfl) (by kernel_rfl) ?_
          simp only [List.take_succ_cons, List.take_zero, List.drop_succ_cons, List.drop_zero]
          change wpStill _ _ (World.drew wy) (fun a' => wpList _ _ _ _ a' (World.drew wy)) _ _
          have hSz := Lib.hid (hSa.out.callB (bdrewN (Below.refl wy.heap.size wy) 1))
          have hNz : Hid (Blk wy.drew bn #[.string nk, .slice a3 nc c3] 95) := hNb
          clear hSa hNb
          change Hid (BxSt w φ bx #[.slice a k cap, .slice (some ⟨b1, o1, none⟩) m ce] 25 wy.drew) at hSz
          generalize wy.drew = wz at *
          have y0 : wz.cell? ⟨bn, 0, none⟩ = some (.string nk) := hNz.out.cell 0
          have y1 : wz.cell? ⟨bn, 1, none⟩ = some (.slice a3 nc c3) := hNz.out.cell 1
          have y2 : wz.cell? ⟨bx, 0, none⟩ = some (.slice a k cap) := hSz.out.k.cell 0
          have y3 : wz.cell? ⟨bx, 1, none⟩ = some (.slice (some ⟨b1, o1, none⟩) m ce) := hSz.out.k.cell 1
          have hkc : j ≤ ce := by omega
          repeat still_step
          refine wpStill_nil ?_
          go_wp2_with fail
          refine (checkEdit_any nk nc a3 c3 ck _ φ hSz.out.fz hTT.out s3 hnc (by omega) hgk' j (some ⟨b1, o1, none⟩) ce (es.take j) stk htk (by omega) k a cap fs s hn hm hq1).mono ?_
          rintro e w5 ⟨rfl, hb5⟩
          have hS5 := Lib.hid (hSz.out.callB hb5)
          clear hb5 y0 y1 y2 y3 d1 d2 hSz hNz
          by_cases hz : q1 = 0
          · subst hz
            go_wp2
            go_roundw
            case rel => exact ⟨j + 1, by omega, by go_num, next_ok hok2 hbad.out, hS5⟩
            case measure => simp [intOf]; omega
          · have hzz : (q1 != 0) = true := by simp [hz]
            have HZ := Lib.hid hz
            clear hz
            go_wp2
            go_ret
            exact ⟨ret_int (by rw [← hq.out]; exact (planF_at hf.out hne (by omega) hlt2 hok2 hbad.out HZ.out).symm), by rw [hbx.out]; have h := hS5.out.bel; rw [hbx.out] at h; exact h⟩
        · obtain rfl : j = m := by omega
          go_wp2
          go_ret
          exact ⟨ret_int (by rw [← hq.out]; exact (planF_ok hf.out hne (by omega) hok2).symm), by rw [hbx.out]; have h := hS.out.bel; rw [hbx.out] at h; exact h⟩
end Go.Proofs.YtambgcijceecpaaDoor
