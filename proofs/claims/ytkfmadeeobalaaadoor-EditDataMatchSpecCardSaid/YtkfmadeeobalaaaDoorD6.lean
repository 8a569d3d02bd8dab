/- What is wrong with data: the plain law; the walk of dataFault. Conditions: the library's table of powers of ten reads as it was laid. -/
import Derived.Test.YtkfmadeeobalaaaDoorD5
import Derived.Test.YtkfmadeeobalaaaDoorD4
import Derived.Test.YtkfmadeeobalaaaDoorEC
namespace Go.Proofs.YtkfmadeeobalaaaDoor
open Go.RowKit
set_option linter.unusedVariables false
noncomputable def givBase (g : Giv) : Int := if nameB g.1.1 = false then 5 else if 3 < g.1.2.length then 3 else if scan (stF g.1.2) g.1.2.length ≠ 0 then scan (stF g.1.2) g.1.2.length else valF g.2
def dupB (l : List Giv) (k : Nat) : Bool := (List.range k).any (fun i => decide ((l.getD i giv0).1 = (l.getD k giv0).1))
noncomputable def givBad (l : List Giv) (k : Nat) : Int := if givBase (l.getD k giv0) ≠ 0 then givBase (l.getD k giv0) else if dupB l k = true then 6 else 0
noncomputable def dataF (l : List Giv) : Int := if 3000 < l.length then 2 else scan (givBad l) l.length
theorem givBase_zero {g : Giv} (h : givBase g = 0) : nameB g.1.1 = true ∧ g.1.2.length ≤ 3 ∧ (∀ i, i < g.1.2.length → stF g.1.2 i = 0) ∧ valF g.2 = 0 := by
  unfold givBase at h
  split at h
  · cases h
  · next h1 =>
    split at h
    · cases h
    · next h2 =>
      split at h
      · next h3 => exact absurd h h3
      · next h3 => exact ⟨by simpa using h1, by omega, scan_all _ (by simpa using h3), h⟩
theorem givBad_zero {l : List Giv} {k : Nat} (h : givBad l k = 0) : givBase (l.getD k giv0) = 0 ∧ dupB l k = false := by
  unfold givBad at h
  split at h
  · next h1 => exact absurd h h1
  · next h1 =>
    split at h
    · cases h
    · next h2 => exact ⟨by simpa using h1, by simpa using h2⟩
theorem row_ok {l : List Int} (h : ∀ i, i < l.length → stF l i = 0) : ∀ n ∈ l, 1 ≤ n ∧ n ≤ 999 := by
  intro n hn
  obtain ⟨i, hi, rfl⟩ := List.mem_iff_getElem.1 hn
  have := h i hi
  unfold stF at this
  rw [getD_elem0 _ _ _ hi] at this
  split at this
  · cases this
  · next h2 => unfold outB at h2; simp at h2; omega
theorem nameB_P {s : ByteArray} (h : nameB s = true) : nameP s := by
  apply Classical.byContradiction
  intro e
  rw [nameB_false e] at h
  cases h
theorem key_ok {g : Giv} (h : givBase g = 0) : KeyOk g.1 := ⟨(nameB_P (givBase_zero h).1).2.2.2.2, row_ok (givBase_zero h).2.2.1⟩
/-- The texts of the keys that were seen. -/
def keysL (l : List Giv) (k : Nat) : List ByteArray := ((l.take k).map (fun g => keyB g.1)).reverse
theorem keysL_succ (l : List Giv) (k n : Nat) (hn : l.length = n) (h : k < n) : keysL l (k + 1) = keyB (l.getD k giv0).1 :: keysL l k := by
  unfold keysL
  rw [List.take_add_one, List.getElem?_eq_getElem (by omega), List.map_append, List.reverse_append, List.getD_eq_getElem?_getD, List.getElem?_eq_getElem (by omega)]
  rfl
theorem keys_mem {l : List Giv} {k n : Nat} (hn : l.length = n) (hk : k < n) (h : ∀ i, i < k → givBad l i = 0) (h0 : givBase (l.getD k giv0) = 0) : decide (keyB (l.getD k giv0).1 ∈ keysL l k) = dupB l k := by
  unfold dupB
  rw [Bool.eq_iff_iff, decide_eq_true_iff, List.any_eq_true]
  unfold keysL
  rw [List.mem_reverse, List.mem_map]
  constructor
  · rintro ⟨g, hg, he⟩
    obtain ⟨i, hi, rfl⟩ := List.mem_iff_getElem.1 hg
    rw [List.length_take] at hi
    have e : (l.take k)[i]'(by rw [List.length_take]; exact hi) = l.getD i giv0 := by
      rw [List.getElem_take, getD_elem0 _ _ _ (by omega)]
    rw [e] at he
    exact ⟨i, List.mem_range.2 (by omega), decide_eq_true (keyB_inj (key_ok (givBad_zero (h i (by omega))).1) (key_ok h0) he)⟩
  · rintro ⟨i, hi, he⟩
    have hi := List.mem_range.1 hi
    refine ⟨l.getD i giv0, ?_, by rw [of_decide_eq_true he]⟩
    rw [getD_elem0 _ _ _ (by omega), List.mem_take_iff_getElem]
    exact ⟨i, by omega, rfl⟩
theorem dataF_at {l : List Giv} {k n : Nat} (hn : l.length = n) (h3 : n ≤ 3000) (hk : k < n) (h : ∀ i, i < k → givBad l i = 0) {c : Int} (hc : givBad l k = c) (h0 : c ≠ 0) : dataF l = c := by
  unfold dataF
  rw [hn, if_neg (by omega), scan_stop h hk (by rw [hc]; exact h0), hc]
theorem dataF_ok {l : List Giv} {n : Nat} (hn : l.length = n) (h3 : n ≤ 3000) (h : ∀ i, i < n → givBad l i = 0) : dataF l = 0 := by
  unfold dataF
  rw [hn, if_neg (by omega), scan_zero _ _ h]
set_option maxRecDepth 100000 in
set_option maxHeartbeats 2000000 in
theorem dataFault_any (n : Nat) (a : Option Addr) (cap : Nat) (l : List Giv) (w : World) (φ : Phi) (hφ : Fz φ w) (hpw : PowP φ) (sl : SlV φ a cap l) (hn : Hid (l.length = n)) (hm : n ≤ 9223372036854775807) (hg : Hid (∀ x ∈ l, x.1.1.size ≤ reachBytes)) {q : Int} (hq : Hid (dataF l = q)) :
    Calls Tryd.prog 43 #[.slice a n cap] w (IntB q w) := by
  by_cases hl : 3000 < n
  · have H1 : Hid (q = 2) := Lib.hid (by rw [← hq.out, dataF, hn.out, if_pos hl])
    go_enter Tryd.func43, Tryd.ntmps43
    go_wp2
    go_ret
    exact ⟨ret_int H1.out.symm, Below.refl _ _⟩
  have hmm := @run_makeMap Tryd.prog
  have hSt : Hid (FsSt w w.heap.size (keysL l 0) (w.alloc (.map #[] 0))) := Lib.hid ⟨(Below.refl _ _).alloc (Nat.le_refl _) _, SeenW.new w, Nat.le_refl _⟩
  replace hpw := Lib.hid hpw
  go_enter Tryd.func43, Tryd.ntmps43
  go_wp2
  clear hmm
  generalize w.alloc (.map #[] 0) = wm at *
  generalize hr0 : w.heap.size = r at *
  replace hr0 := Lib.hid hr0
  go_loopw [15] (fun i wr => ∃ k : Nat, k ≤ n ∧ i = .int .i64 k ∧ Hid (∀ i, i < k → givBad l i = 0) ∧ Hid (FsSt w r (keysL l k) wr)) (fun i _ => n - (intOf i).toNat)
  case atStart => exact ⟨0, Nat.zero_le _, rfl, none_yet _, hSt⟩
  case round =>
    clear hSt
    obtain ⟨k, hk, rfl, hok, hS⟩ := hrel
    by_cases hlt : k < n
    · obtain ⟨b, off, rfl, f⟩ := sl.givD hn hlt
      obtain ⟨ar, cr, as_, cs_, sr, ss, f⟩ := f k hlt
      obtain ⟨_, c0, c1, c2, c3, c4, c5⟩ := f wr (hφ.below hS.out.bel)
      have hbad := Lib.hid (givBad.eq_1 l k)
      have hbase := Lib.hid (givBase.eq_1 (l.getD k giv0))
      have hsl := Lib.hid (keysL_succ l k n hn.out hlt)
      have hmem := Lib.hid (keys_mem hn.out hlt hok.out)
      have hgk := hg.out (l.getD k giv0) (by rw [getD_elem0 giv0 _ _ (by rw [hn.out]; exact hlt)]; exact List.getElem_mem _)
      have hzer := Lib.hid (fun h : givBase (l.getD k giv0) = 0 => key_ok h)
      have hat := Lib.hid (fun (c : Int) (hc : givBad l k = c) (h0 : c ≠ 0) => dataF_at hn.out (by omega) hlt hok.out hc h0)
      clear f
      obtain ⟨B0, hB0⟩ : ∃ B, Hid (givBase (l.getD k giv0) = B) := ⟨_, Lib.hid rfl⟩
      rw [hB0.out] at hbad hmem hzer hbase
      generalize l.getD k giv0 = g at *
      obtain ⟨⟨nm, row⟩, kd, nn, sv, set⟩ := g
      dsimp only at c0 c1 c2 c3 c4 c5 sr ss hgk hbase hsl hmem hzer
      obtain ⟨nr, hnr⟩ : ∃ j, Hid (row.length = j) := ⟨_, Lib.hid rfl⟩
      obtain ⟨ns, hns⟩ : ∃ j, Hid (set.length = j) := ⟨_, Lib.hid rfl⟩
      rw [hnr.out] at c1 hbase
      rw [hns.out] at c5
      have hrlen := sr.len
      rw [hnr.out] at hrlen
      obtain ⟨φ5, l5, i5, k5⟩ := (Inv.start (hφ.below hS.out.bel)).frz (.cells #[.string nm, .slice ar nr cr, .int .i64 kd, .int .i64 nn, .string sv, .slice as_ ns cs_] 54)
      have HC := Lib.hid (fun (W : World) (hf : Fz φ5 W) => hf.blk k5)
      have hS1 := Lib.hid (hS.out.alloc (.cells #[.string nm, .slice ar nr cr, .int .i64 kd, .int .i64 nn, .string sv, .slice as_ ns cs_] 54))
      have HF1 := Lib.hid i5.fz
      have SR := Lib.hid (sr.mono l5)
      have SS := Lib.hid (ss.mono l5)
      have HPW5 := Lib.hid (hpw.out.mono l5)
      have hrlt := hS.out.map.lt
      have hne : wr.heap.size ≠ r := by omega
      have b0 : (wr.alloc (.cells #[.string nm, .slice ar nr cr, .int .i64 kd, .int .i64 nn, .string sv, .slice as_ ns cs_] 54)).cell? ⟨wr.heap.size, 0, none⟩ = some (.string nm) := box_at 0
      have b1 : (wr.alloc (.cells #[.string nm, .slice ar nr cr, .int .i64 kd, .int .i64 nn, .string sv, .slice as_ ns cs_] 54)).cell? ⟨wr.heap.size, 1, none⟩ = some (.slice ar nr cr) := box_at 1
      have b2 : (wr.alloc (.cells #[.string nm, .slice ar nr cr, .int .i64 kd, .int .i64 nn, .string sv, .slice as_ ns cs_] 54)).cell? ⟨wr.heap.size, 2, none⟩ = some (.int .i64 kd) := box_at 2
      have b3 : (wr.alloc (.cells #[.string nm, .slice ar nr cr, .int .i64 kd, .int .i64 nn, .string sv, .slice as_ ns cs_] 54)).cell? ⟨wr.heap.size, 3, none⟩ = some (.int .i64 nn) := box_at 3
      have b4 : (wr.alloc (.cells #[.string nm, .slice ar nr cr, .int .i64 kd, .int .i64 nn, .string sv, .slice as_ ns cs_] 54)).cell? ⟨wr.heap.size, 4, none⟩ = some (.string sv) := box_at 4
      have b5 : (wr.alloc (.cells #[.string nm, .slice ar nr cr, .int .i64 kd, .int .i64 nn, .string sv, .slice as_ ns cs_] 54)).cell? ⟨wr.heap.size, 5, none⟩ = some (.slice as_ ns cs_) := box_at 5
      obtain ⟨o1, ho1⟩ : ∃ o, Hid (nameB nm = o) := ⟨_, Lib.hid rfl⟩
      rw [ho1.out] at hbase
      clear l5 i5 k5 sr ss hS
      go_wp2_with fail
      clear c0 c1 c2 c3 c4 c5
      generalize wr.alloc (.cells #[.string nm, .slice ar nr cr, .int .i64 kd, .int .i64 nn, .string sv, .slice as_ ns cs_] 54) = wx at *
      generalize wr.heap.size = bx at *
      refine (IsName_any _ _ hgk ho1.out).mono ?_
      rintro e w' ⟨rfl, rfl⟩
      cases o1 with
      | false =>
        have hB : B0 = 5 := by rw [hbase.out, if_pos rfl]
        have H1 : Hid (q = 5) := Lib.hid (by rw [← hq.out]; exact hat.out 5 (by rw [hbad.out, if_pos (by rw [hB]; decide), hB]) (by decide))
        clear hB
        go_wp2
        go_ret
        exact ⟨ret_int H1.out.symm, hS1.out.bel⟩
      | true =>
      have hnm16 : nm.size ≤ 16 := (nameB_P ho1.out).2.1
      rw [if_neg (by simp)] at hbase
      by_cases h3 : 3 < nr
      · have hB : B0 = 3 := by rw [hbase.out, if_pos h3]
        have H1 : Hid (q = 3) := Lib.hid (by rw [← hq.out]; exact hat.out 3 (by rw [hbad.out, if_pos (by rw [hB]; decide), hB]) (by decide))
        clear hB
        go_wp2
        go_ret
        exact ⟨ret_int H1.out.symm, hS1.out.bel⟩
      rw [if_neg h3] at hbase
      go_wp2
      go_loop [33] (fun i => ∃ j : Nat, j ≤ nr ∧ i = .int .i64 j ∧ Hid (∀ i, i < j → stF row i = 0)) (fun i => nr - (intOf i).toNat)
      case atStart => exact ⟨0, Nat.zero_le _, rfl, none_yet _⟩
      case round =>
        obtain ⟨j, hj, rfl, hro⟩ := hrel
        by_cases hjl : j < nr
        · obtain ⟨b1', o1', rfl, f1⟩ := SR.out.intsD hnr hjl
          have d1 := (f1 j hjl wx HF1.out).2
          have hcf : Hid (stF row j = if outB (row.getD j 0) 1 999 = true then 1 else 0) := Lib.hid rfl
          clear f1
          generalize row.getD j 0 = x at *
          obtain ⟨o, ho⟩ : ∃ o, Hid (outB x 1 999 = o) := ⟨_, Lib.hid rfl⟩
          rw [ho.out] at hcf
          cases o with
          | true =>
            have hB : B0 = 1 := by
              have e : scan (stF row) nr = 1 := by rw [scan_stop hro.out hjl (by rw [hcf.out]; decide), hcf.out]; rfl
              rw [hbase.out, e]; rfl
            have H1 : Hid (q = 1) := Lib.hid (by rw [← hq.out]; exact hat.out 1 (by rw [hbad.out, if_pos (by rw [hB]; decide), hB]) (by decide))
            clear hB
            go_wp2_with (go_at_call 35; refine (outside_b _ _ _ _ ho.out).mono ?_; rintro e w' ⟨rfl, rfl⟩)
            go_ret
            exact ⟨ret_int H1.out.symm, hS1.out.bel⟩
          | false =>
            have H1 := next_ok hro (by rw [hcf.out, if_neg (by simp)])
            go_wp2_with (go_at_call 35; refine (outside_b _ _ _ _ ho.out).mono ?_; rintro e w' ⟨rfl, rfl⟩)
            go_round
            case rel => exact ⟨j + 1, by omega, by go_num, H1⟩
            case measure => (simp [intOf] <;> omega)
        · obtain rfl : j = nr := by omega
          rw [scan_zero _ _ hro.out, if_neg (by simp)] at hbase
          obtain ⟨q2, hq2⟩ : ∃ x, Hid (valF (kd, nn, sv, set) = x) := ⟨_, Lib.hid rfl⟩
          rw [hq2.out] at hbase
          go_wp2_with fail
          refine (Check_any kd nn sv as_ ns cs_ set wx φ5 HF1.out SS.out hns hq2).mono ?_
          rintro e w2 ⟨rfl, hb2⟩
          have hS2 := Lib.hid (hS1.out.callB hb2)
          have HF2 := Lib.hid (HF1.out.below hb2)
          clear hb2 b0 b1 b2 b3 b4 b5 hS1 HF1
          by_cases hz : q2 = 0
          case neg =>
            have hzb : (q2 != 0) = true := by simp [hz]
            have H1 : Hid (q = q2) := Lib.hid (by rw [← hq.out]; exact hat.out q2 (by rw [hbad.out, hbase.out, if_pos hz]) hz)
            clear hz
            go_wp2
            go_ret
            exact ⟨ret_int H1.out.symm, hS2.out.bel⟩
          subst hz
          have hK := hzer.out hbase.out
          have hro2 := Lib.hid hK.2
          obtain ⟨t, ht⟩ : ∃ t, Hid (keyB (nm, row) = t) := ⟨_, Lib.hid rfl⟩
          obtain ⟨o2, ho2⟩ : ∃ o, Hid (dupB l k = o) := ⟨_, Lib.hid rfl⟩
          have hmm2 := hmem.out hbase.out
          rw [ht.out, ho2.out] at hmm2
          have HM := Lib.hid hmm2
          rw [ht.out] at hsl
          rw [hbase.out, if_neg (by simp), ho2.out] at hbad
          have e0 : w2.cell? ⟨bx, 0, none⟩ = some (.string nm) := (HC.out w2 HF2.out).cell 0
          have e1 : w2.cell? ⟨bx, 1, none⟩ = some (.slice ar j cr) := (HC.out w2 HF2.out).cell 1
          clear hK hmm2 hzer hmem
          go_wp2_with fail
          clear e0 e1
          refine (keyText_any nm j ar cr row w2 φ5 HF2.out HPW5.out SR.out hnr (by omega) hro2 hnm16 ht).mono ?_
          rintro e w3 ⟨rfl, hb3⟩
          have hS3 := Lib.hid (hS2.out.callB hb3)
          have HF3 := Lib.hid (HF2.out.below hb3)
          clear hb3 hS2 HF2
          have hlk := hS3.out.map.look t HM.out
          cases o2 with
          | true =>
            have H1 : Hid (q = 6) := Lib.hid (by rw [← hq.out]; exact hat.out 6 (by rw [hbad.out, if_pos rfl]) (by decide))
            go_wp2
            go_ret
            exact ⟨ret_int H1.out.symm, hS3.out.bel⟩
          | false =>
          have e0 : w3.cell? ⟨bx, 0, none⟩ = some (.string nm) := (HC.out w3 HF3.out).cell 0
          have e1 : w3.cell? ⟨bx, 1, none⟩ = some (.slice ar j cr) := (HC.out w3 HF3.out).cell 1
          go_wp2_with fail
          clear e0 e1 hlk
          refine (keyText_any nm j ar cr row w3 φ5 HF3.out HPW5.out SR.out hnr (by omega) hro2 hnm16 ht).mono ?_
          rintro e w4 ⟨rfl, hb4⟩
          have hS4 := Lib.hid (hS3.out.callB hb4)
          obtain ⟨o, hp, hS5, hgr⟩ := hS4.out.put t
          have HS5 := Lib.hid hS5
          rw [← hsl.out] at HS5
          clear hb4 hS3 HF3 hS5 hgr
          go_wp2
          clear hp
          go_roundw
          case rel => exact ⟨k + 1, by omega, by go_num, next_ok (by assumption) (by rw [hbad.out, if_neg (by simp)]), HS5⟩
          case measure => (simp [intOf] <;> omega)
    · obtain rfl : k = n := by omega
      have H1 : Hid (q = 0) := Lib.hid (by rw [← hq.out]; exact dataF_ok hn.out (by omega) hok.out)
      go_wp2
      go_ret
      exact ⟨ret_int H1.out.symm, hS.out.bel⟩
end Go.Proofs.YtkfmadeeobalaaaDoor
