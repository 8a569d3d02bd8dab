/- The walk of the reference's checkData. Conditions: the library's table of blanks reads as it was laid. -/
import Derived.Test.YtkfmadeeobalaaaDoorD6
import Derived.Test.YtkfmadeeobalaaaDoorY2
namespace Go.Proofs.YtkfmadeeobalaaaDoor
open Go.RowKit
set_option linter.unusedVariables false
theorem dup_f {l : List Giv} {k : Nat} (h : ∀ i, i < k → (l.getD i giv0).1 ≠ (l.getD k giv0).1) : dupB l k = false := by
  unfold dupB
  rw [List.any_eq_false]
  intro i hi
  have := h i (List.mem_range.1 hi)
  simpa using this
theorem dup_t {l : List Giv} {k i : Nat} (hi : i < k) (h : (l.getD i giv0).1 = (l.getD k giv0).1) : dupB l k = true := by
  unfold dupB
  rw [List.any_eq_true]
  exact ⟨i, List.mem_range.2 hi, decide_eq_true h⟩
set_option maxRecDepth 100000 in
set_option maxHeartbeats 4000000 in
theorem RcheckData_any (n : Nat) (a : Option Addr) (cap : Nat) (l : List Giv) (w : World) (φ : Phi) (hφ : Fz φ w) (ht : TabP φ) (sl : SlV φ a cap l) (hn : Hid (l.length = n)) (hm : n ≤ 9223372036854775807) (hg : Hid (∀ x ∈ l, x.1.1.size ≤ reachBytes)) {q : Int} (hq : Hid (dataF l = q)) :
    Calls Tryd.prog 45 #[.slice a n cap] w (IntB q w) := by
  by_cases hl : 3000 < n
  · have H1 : Hid (q = 2) := Lib.hid (by rw [← hq.out, dataF, hn.out, if_pos hl])
    go_enter Tryd.func45, Tryd.ntmps45
    go_wp2
    go_ret
    exact ⟨ret_int H1.out.symm, Below.refl _ _⟩
  replace ht := Lib.hid ht
  go_enter Tryd.func45, Tryd.ntmps45
  go_wp2
  go_loopw [15] (fun i wr => ∃ k : Nat, k ≤ n ∧ i = .int .i64 k ∧ Hid (∀ i, i < k → givBad l i = 0) ∧ Hid (Below w.heap.size w wr)) (fun i _ => n - (intOf i).toNat)
  case atStart => exact ⟨0, Nat.zero_le _, rfl, none_yet _, Lib.hid (Below.refl _ _)⟩
  case round =>
    obtain ⟨k, hk, rfl, hok, hS⟩ := hrel
    by_cases hlt : k < n
    · obtain ⟨b, off, rfl, f⟩ := sl.givD hn hlt
      obtain ⟨ar, cr, as_, cs_, sr, ss, f⟩ := f k hlt
      obtain ⟨_, c0, c1, c2, c3, c4, c5⟩ := f wr (hφ.below hS.out)
      have hbad := Lib.hid (givBad.eq_1 l k)
      have hbase := Lib.hid (givBase.eq_1 (l.getD k giv0))
      have hgk := hg.out (l.getD k giv0) (by rw [getD_elem0 giv0 _ _ (by rw [hn.out]; exact hlt)]; exact List.getElem_mem _)
      have hat := Lib.hid (fun (c : Int) (hc : givBad l k = c) (h0 : c ≠ 0) => dataF_at hn.out (by omega) hlt hok.out hc h0)
      clear f
      obtain ⟨B0, hB0⟩ : ∃ B, Hid (givBase (l.getD k giv0) = B) := ⟨_, Lib.hid rfl⟩
      rw [hB0.out] at hbad hbase
      generalize hgg : l.getD k giv0 = g at *
      obtain ⟨⟨nm, row⟩, kd, nn, sv, set⟩ := g
      have HKEY : Hid ((l.getD k giv0).1 = (nm, row)) := Lib.hid (by rw [hgg])
      clear hgg
      dsimp only at c0 c1 c2 c3 c4 c5 sr ss hgk hbase
      obtain ⟨nr, hnr⟩ : ∃ j, Hid (row.length = j) := ⟨_, Lib.hid rfl⟩
      obtain ⟨ns, hns⟩ : ∃ j, Hid (set.length = j) := ⟨_, Lib.hid rfl⟩
      rw [hnr.out] at c1 hbase
      rw [hns.out] at c5
      have hrlen := sr.len
      rw [hnr.out] at hrlen
      obtain ⟨φ5, l5, i5, k5⟩ := (Inv.start (hφ.below hS.out)).frz (.cells #[.string nm, .slice ar nr cr, .int .i64 kd, .int .i64 nn, .string sv, .slice as_ ns cs_] 54)
      have L5 := Lib.hid l5
      have HC := Lib.hid (fun (W : World) (hf : Fz φ5 W) => hf.blk k5)
      have hS1 := Lib.hid (hS.out.alloc hS.out.size (.cells #[.string nm, .slice ar nr cr, .int .i64 kd, .int .i64 nn, .string sv, .slice as_ ns cs_] 54))
      have HF1 := Lib.hid i5.fz
      have SR := Lib.hid (sr.mono l5)
      have SS := Lib.hid (ss.mono l5)
      have HT5 := Lib.hid (ht.out.mono l5)
      have b0 : (wr.alloc (.cells #[.string nm, .slice ar nr cr, .int .i64 kd, .int .i64 nn, .string sv, .slice as_ ns cs_] 54)).cell? ⟨wr.heap.size, 0, none⟩ = some (.string nm) := box_at 0
      have b1 : (wr.alloc (.cells #[.string nm, .slice ar nr cr, .int .i64 kd, .int .i64 nn, .string sv, .slice as_ ns cs_] 54)).cell? ⟨wr.heap.size, 1, none⟩ = some (.slice ar nr cr) := box_at 1
      have b2 : (wr.alloc (.cells #[.string nm, .slice ar nr cr, .int .i64 kd, .int .i64 nn, .string sv, .slice as_ ns cs_] 54)).cell? ⟨wr.heap.size, 2, none⟩ = some (.int .i64 kd) := box_at 2
      have b3 : (wr.alloc (.cells #[.string nm, .slice ar nr cr, .int .i64 kd, .int .i64 nn, .string sv, .slice as_ ns cs_] 54)).cell? ⟨wr.heap.size, 3, none⟩ = some (.int .i64 nn) := box_at 3
      have b4 : (wr.alloc (.cells #[.string nm, .slice ar nr cr, .int .i64 kd, .int .i64 nn, .string sv, .slice as_ ns cs_] 54)).cell? ⟨wr.heap.size, 4, none⟩ = some (.string sv) := box_at 4
      have b5 : (wr.alloc (.cells #[.string nm, .slice ar nr cr, .int .i64 kd, .int .i64 nn, .string sv, .slice as_ ns cs_] 54)).cell? ⟨wr.heap.size, 5, none⟩ = some (.slice as_ ns cs_) := box_at 5
      obtain ⟨o1, ho1⟩ : ∃ o, Hid (nameB nm = o) := ⟨_, Lib.hid rfl⟩
      rw [ho1.out] at hbase
      clear l5 i5 k5 sr ss hS
      go_wp2_with fail
      clear c0 c1 c2 c3 c4 c5
      generalize wr.alloc (.cells #[.string nm, .slice ar nr cr, .int .i64 kd, .int .i64 nn, .string sv, .slice as_ ns cs_] 54) = wx at *
      generalize wr.heap.size = bx at *
      refine (RIsName_any nm wx φ5 HF1.out HT5.out hgk ho1).mono ?_
      rintro e wy ⟨rfl, hby⟩
      replace hS1 := Lib.hid (hS1.out.trans (hby.mono hS1.out.size))
      replace HF1 := Lib.hid (HF1.out.below hby)
      clear b0 b1 b2 b3 b4 b5 hby
      have b1 : wy.cell? ⟨bx, 1, none⟩ = some (.slice ar nr cr) := (HC.out wy HF1.out).cell 1
      have b2 : wy.cell? ⟨bx, 2, none⟩ = some (.int .i64 kd) := (HC.out wy HF1.out).cell 2
      have b3 : wy.cell? ⟨bx, 3, none⟩ = some (.int .i64 nn) := (HC.out wy HF1.out).cell 3
      have b4 : wy.cell? ⟨bx, 4, none⟩ = some (.string sv) := (HC.out wy HF1.out).cell 4
      have b5 : wy.cell? ⟨bx, 5, none⟩ = some (.slice as_ ns cs_) := (HC.out wy HF1.out).cell 5
      cases o1 with
      | false =>
        have hB : B0 = 5 := by rw [hbase.out, if_pos rfl]
        have H1 : Hid (q = 5) := Lib.hid (by rw [← hq.out]; exact hat.out 5 (by rw [hbad.out, if_pos (by rw [hB]; decide), hB]) (by decide))
        clear hB
        go_wp2
        go_ret
        exact ⟨ret_int H1.out.symm, hS1.out⟩
      | true =>
      have hnm16 : nm.size ≤ 16 := (nameB_P ho1.out).2.1
      rw [if_neg (by simp)] at hbase
      by_cases h3 : 3 < nr
      · have hB : B0 = 3 := by rw [hbase.out, if_pos h3]
        have H1 : Hid (q = 3) := Lib.hid (by rw [← hq.out]; exact hat.out 3 (by rw [hbad.out, if_pos (by rw [hB]; decide), hB]) (by decide))
        clear hB
        go_wp2
        go_ret
        exact ⟨ret_int H1.out.symm, hS1.out⟩
      rw [if_neg h3] at hbase
      go_wp2
      go_loop [34] (fun i => ∃ j : Nat, j ≤ nr ∧ i = .int .i64 j ∧ Hid (∀ i, i < j → stF row i = 0)) (fun i => nr - (intOf i).toNat)
      case atStart => exact ⟨0, Nat.zero_le _, rfl, none_yet _⟩
      case round =>
        obtain ⟨j, hj, rfl, hro⟩ := hrel
        by_cases hjl : j < nr
        · obtain ⟨b1', o1', rfl, f1⟩ := SR.out.intsD hnr hjl
          have d1 := (f1 j hjl wy HF1.out).2
          have hcf : Hid (stF row j = if outB (row.getD j 0) 1 999 = true then 1 else 0) := Lib.hid rfl
          clear f1
          generalize row.getD j 0 = x at *
          obtain ⟨o, ho⟩ : ∃ o, Hid (outB x 1 999 = o) := ⟨_, Lib.hid rfl⟩
          rw [ho.out] at hcf
          cases o with
          | true =>
            have hB : B0 = 1 := by
              have e : scan (stF row) nr = 1 := by rw [scan_stop hro.out hjl (by rw [hcf.out]; decide), hcf.out]; rfl
              rw [hbase.out, e]; rfl
            have H1 : Hid (q = 1) := Lib.hid (by rw [← hq.out]; exact hat.out 1 (by rw [hbad.out, if_pos (by rw [hB]; decide), hB]) (by decide))
            clear hB
            go_wp2_with (go_at_call 39; refine (within_b _ _ _ _ ho.out).mono ?_; rintro e w' ⟨rfl, rfl⟩)
            go_ret
            exact ⟨ret_int H1.out.symm, hS1.out⟩
          | false =>
            have H1 := next_ok hro (by rw [hcf.out, if_neg (by simp)])
            go_wp2_with (go_at_call 39; refine (within_b _ _ _ _ ho.out).mono ?_; rintro e w' ⟨rfl, rfl⟩)
            go_round
            case rel => exact ⟨j + 1, by omega, by go_num, H1⟩
            case measure => (simp [intOf] <;> omega)
        · obtain rfl : j = nr := by omega
          rw [scan_zero _ _ hro.out, if_neg (by simp)] at hbase
          obtain ⟨q2, hq2⟩ : ∃ x, Hid (valF (kd, nn, sv, set) = x) := ⟨_, Lib.hid rfl⟩
          rw [hq2.out] at hbase
          go_wp2_with fail
          refine (RCheck_any kd nn sv as_ ns cs_ set wy φ5 HF1.out SS.out hns hq2).mono ?_
          rintro e w2 ⟨rfl, hb2⟩
          have hS2 := Lib.hid (hS1.out.trans (hb2.mono hS1.out.size))
          have HF2 := Lib.hid (HF1.out.below hb2)
          clear hb2 b1 b2 b3 b4 b5 hS1 HF1
          by_cases hz : q2 = 0
          case neg =>
            have hzb : (q2 != 0) = true := by simp [hz]
            have H1 : Hid (q = q2) := Lib.hid (by rw [← hq.out]; exact hat.out q2 (by rw [hbad.out, hbase.out, if_pos hz]) hz)
            clear hz
            go_wp2
            go_ret
            exact ⟨ret_int H1.out.symm, hS2.out⟩
          subst hz
          rw [hbase.out, if_neg (by simp)] at hbad
          have HB0 : B0 = 0 := hbase.out
          have hcap := sl.capn
          rw [hn.out] at hcap
          have hcm := sl.capm
          unfold maxLen at hcm
          have HROW := Lib.hid (fun (W : World) (hf : Fz φ5 W) => (HC.out W hf).cell 1)
          go_wp2
          go_loopw [52] (fun i wj => ∃ m : Nat, m ≤ k ∧ i = .int .i64 m ∧ Hid (∀ i, i < m → (l.getD i giv0).1 ≠ (nm, row)) ∧ Hid (Below w.heap.size w wj ∧ Fz φ5 wj)) (fun i _ => k - (intOf i).toNat)
          case atStart => exact ⟨0, Nat.zero_le _, rfl, Lib.hid (fun i hi => by omega), Lib.hid ⟨hS2.out, HF2.out⟩⟩
          case round =>
            clear hS2 HF2
            obtain ⟨m, hm2, rfl, hno, hJ⟩ := hrel
            rename World => wj
            by_cases hml : m < k
            · obtain ⟨_, _, hbb, f⟩ := sl.givD (k := m) hn (by omega)
              cases hbb
              obtain ⟨ar2, cr2, as2, cs2, sr2, ss2, f⟩ := f m (by omega)
              obtain ⟨_, c0, c1, c2, c3, c4, c5⟩ := f wj (hJ.out.2.sub L5.out)
              have hnx := Lib.hid (fun (h : (l.getD m giv0).1 ≠ (nm, row)) i (hi : i < m + 1) => (by
                by_cases e : i = m
                · rw [e]; exact h
                · exact hno.out i (by omega) : (l.getD i giv0).1 ≠ (nm, row)))
              have hdt := Lib.hid (fun (h : (l.getD m giv0).1 = (nm, row)) => dup_t hml (h.trans HKEY.out.symm))
              clear f
              generalize l.getD m giv0 = g2 at *
              obtain ⟨⟨nm2, row2⟩, kd2, nn2, sv2, set2⟩ := g2
              dsimp only at c0 c1 c2 c3 c4 c5 sr2 ss2 hnx hdt
              obtain ⟨nr2, hnr2⟩ : ∃ j, Hid (row2.length = j) := ⟨_, Lib.hid rfl⟩
              obtain ⟨ns2, hns2⟩ : ∃ j, Hid (set2.length = j) := ⟨_, Lib.hid rfl⟩
              rw [hnr2.out] at c1
              rw [hns2.out] at c5
              have hr2len := sr2.len
              rw [hnr2.out] at hr2len
              have hJ2 : Hid (Below w.heap.size w (wj.alloc (.cells #[.string nm2, .slice ar2 nr2 cr2, .int .i64 kd2, .int .i64 nn2, .string sv2, .slice as2 ns2 cs2] 54)) ∧ Fz φ5 (wj.alloc (.cells #[.string nm2, .slice ar2 nr2 cr2, .int .i64 kd2, .int .i64 nn2, .string sv2, .slice as2 ns2 cs2] 54))) := Lib.hid ⟨hJ.out.1.alloc hJ.out.1.size _, hJ.out.2.alloc _⟩
              have d0 : (wj.alloc (.cells #[.string nm2, .slice ar2 nr2 cr2, .int .i64 kd2, .int .i64 nn2, .string sv2, .slice as2 ns2 cs2] 54)).cell? ⟨wj.heap.size, 0, none⟩ = some (.string nm2) := box_at 0
              have d1 : (wj.alloc (.cells #[.string nm2, .slice ar2 nr2 cr2, .int .i64 kd2, .int .i64 nn2, .string sv2, .slice as2 ns2 cs2] 54)).cell? ⟨wj.heap.size, 1, none⟩ = some (.slice ar2 nr2 cr2) := box_at 1
              have e0 : (wj.alloc (.cells #[.string nm2, .slice ar2 nr2 cr2, .int .i64 kd2, .int .i64 nn2, .string sv2, .slice as2 ns2 cs2] 54)).cell? ⟨bx, 0, none⟩ = some (.string nm) := (HC.out _ hJ2.out.2).cell 0
              have e1 : (wj.alloc (.cells #[.string nm2, .slice ar2 nr2 cr2, .int .i64 kd2, .int .i64 nn2, .string sv2, .slice as2 ns2 cs2] 54)).cell? ⟨bx, 1, none⟩ = some (.slice ar j cr) := (HC.out _ hJ2.out.2).cell 1
              have SR2 := Lib.hid (sr2.mono L5.out)
              clear sr2 ss2 hJ
              by_cases hnn : nm2 = nm
              case neg =>
                have hs := str_eq_f hnn
                have HN := Lib.hid (hnx.out (fun e => hnn (congrArg Prod.fst e)))
                clear hnn
                go_wp2
                go_roundw
                case rel => exact ⟨m + 1, by omega, by go_num, HN, hJ2⟩
                case measure => (simp [intOf] <;> omega)
              subst hnn
              have hs := str_eq_t (rfl : nm2 = nm2)
              obtain ⟨bq, hbq⟩ : ∃ b, Hid (decide (row2 = row) = b) := ⟨_, Lib.hid rfl⟩
              go_wp2_with fail
              refine (Equal_b nr2 ar2 cr2 row2 j ar cr row _ φ5 hJ2.out.2 SR2.out hnr2 hr2len SR.out hnr hbq).mono ?_
              rintro e w6 ⟨rfl, hb6⟩
              have hJ6 : Hid (Below w.heap.size w w6 ∧ Fz φ5 w6) := Lib.hid ⟨hJ2.out.1.trans (hb6.mono hJ2.out.1.size), hJ2.out.2.below hb6⟩
              clear hb6 hJ2 d0 d1 e0 e1 c0 c1 c2 c3 c4 c5
              cases bq with
              | true =>
                have HD := hdt.out (by rw [of_decide_eq_true hbq.out])
                have H1 : Hid (q = 6) := Lib.hid (by rw [← hq.out]; exact hat.out 6 (by rw [hbad.out, HD]; rfl) (by decide))
                clear HD
                go_wp2
                go_ret
                exact ⟨ret_int H1.out.symm, hJ6.out.1⟩
              | false =>
                have HN := Lib.hid (hnx.out (fun e => of_decide_eq_false hbq.out (congrArg Prod.snd e)))
                go_wp2
                go_roundw
                case rel => exact ⟨m + 1, by omega, by go_num, HN, hJ6⟩
                case measure => (simp [intOf] <;> omega)
            · obtain rfl : m = k := by omega
              have HD : Hid (dupB l m = false) := Lib.hid (dup_f (fun i hi => by rw [HKEY.out]; exact hno.out i hi))
              have H1 := next_ok hok (by rw [hbad.out, HD.out]; rfl)
              go_wp2
              go_roundw
              case rel => exact ⟨m + 1, by omega, by go_num, H1, Lib.hid hJ.out.1⟩
              case measure => (simp [intOf] <;> omega)
    · obtain rfl : k = n := by omega
      have H1 : Hid (q = 0) := Lib.hid (by rw [← hq.out]; exact dataF_ok hn.out (by omega) hok.out)
      go_wp2
      go_ret
      exact ⟨ret_int H1.out.symm, hS.out⟩
end Go.Proofs.YtkfmadeeobalaaaDoor
