/- The walks of the reference's within, checkField, checkEdit. Conditions: the library's table of blanks reads as it was laid. -/
import Derived.Test.YtambgcijceecpaaDoorQ1
import Derived.Test.YtambgcijceecpaaDoorE8
import Derived.Deep.RegionWith
namespace Go.Proofs.YtambgcijceecpaaDoor
open Go.RowKit
set_option linter.unusedVariables false

theorem within_b (n lo hi : Int) (w : World) {b : Bool} (h : outB n lo hi = b) :
    Calls Tryd.prog 38 #[.int .i64 n, .int .i64 lo, .int .i64 hi] w fun e w' => e = .returned (.bool (!b)) ∧ w = w' := by
  subst h
  go_enter Tryd.func38, Tryd.ntmps38
  by_cases h : lo ≤ n
  · go_wp2
    go_ret
    exact ⟨ret_bool (by rw [Bool.eq_iff_iff]; simp [outB]; omega), rfl⟩
  · go_wp2
    go_ret
    exact ⟨ret_bool (by rw [Bool.eq_iff_iff]; simp [outB]; omega), rfl⟩
noncomputable def rfB (nm : ByteArray) (cs : List Int) (wt : Int) (ear : List Fld) : Int := if nameB nm = false then 5 else if decide (nm ∈ ear.map (·.1)) = true then 6 else fieldF cs wt
theorem fldBad_rf {fs : List Fld} {k : Nat} : fldBad fs k = rfB (fs.getD k fld0).1 (fs.getD k fld0).2.1 (fs.getD k fld0).2.2 (fs.take k) := by
  unfold fldBad rfB seenL
  simp only [List.mem_reverse]
theorem names_next {α : Type} {l : List (ByteArray × α)} {d : ByteArray × α} {k : Nat} {x : ByteArray} (h : Hid (∀ i, i < k → (l.getD i d).1 ≠ x)) (hk : (l.getD k d).1 ≠ x) : Hid (∀ i, i < k + 1 → (l.getD i d).1 ≠ x) :=
  Lib.hid fun i hi => by
    by_cases e : i = k
    · subst e; exact hk
    · exact h.out i (by omega)
theorem names_none {α : Type} {l : List (ByteArray × α)} {d : ByteArray × α} {n : Nat} (hn : l.length = n) {x : ByteArray} (h : ∀ i, i < n → (l.getD i d).1 ≠ x) : decide (x ∈ l.map (·.1)) = false := by
  rw [decide_eq_false_iff_not, List.mem_map]
  rintro ⟨y, hy, rfl⟩
  obtain ⟨i, hi, rfl⟩ := List.getElem_of_mem hy
  exact h i (by omega) (by rw [getD_elem0 _ _ _ hi])
theorem names_some {α : Type} {l : List (ByteArray × α)} {d : ByteArray × α} {k n : Nat} (hn : l.length = n) (hk : k < n) {x : ByteArray} (h : (l.getD k d).1 = x) : decide (x ∈ l.map (·.1)) = true := by
  rw [decide_eq_true_iff, List.mem_map]
  exact ⟨_, by rw [getD_elem0 d l k (by omega)] at h; exact List.getElem_mem (by omega : k < l.length), by rw [← h, getD_elem0 d l k (by omega)]⟩
structure BxSt (w0 : World) (φ : Phi) (bx : Nat) (cs : Array Value) (T : TypeId) (w : World) : Prop where
  fz : Fz φ w
  bel : Below w0.heap.size w0 w
  k : Blk w bx cs T
theorem BxSt.callB {w0 w w' : World} {φ : Phi} {bx : Nat} {cs : Array Value} {T : TypeId} (h : BxSt w0 φ bx cs T w) (hb : Below w.heap.size w w') : BxSt w0 φ bx cs T w' := ⟨h.fz.below hb, h.bel.trans (hb.mono h.bel.size), h.k.callB hb⟩
theorem BxSt.alloc {w0 w : World} {φ : Phi} {bx : Nat} {cs : Array Value} {T : TypeId} (h : BxSt w0 φ bx cs T w) (o : Obj) : BxSt w0 φ bx cs T (w.alloc o) := h.callB ((Below.refl _ _).alloc (Nat.le_refl _) o)
theorem BxSt.new {w : World} {φ : Phi} (h : Fz φ w) (cs : Array Value) (T : TypeId) : BxSt w φ w.heap.size cs T (w.alloc (.cells cs T)) := ⟨h.alloc _, (Below.refl _ _).alloc (Nat.le_refl _) _, Blk.new w cs T⟩
set_option maxRecDepth 100000 in
set_option maxHeartbeats 1000000 in
theorem checkField_any (nm : ByteArray) (n : Nat) (a : Option Addr) (cap : Nat) (cs : List Int) (wt : Int) (w : World) (φ : Phi) (hφ : Fz φ w) (ht : TabP φ) (s : SlV φ a cap cs) (hn : Hid (cs.length = n)) (hm : n ≤ 9223372036854775807) (hg : nm.size ≤ reachBytes)
    (ke : Nat) (a2 : Option Addr) (c2 : Nat) (ear : List Fld) (se : SlV φ a2 c2 ear) (hke : Hid (ear.length = ke)) (hme : ke ≤ 9223372036854775807) {q : Int} (hq : Hid (rfB nm cs wt ear = q)) :
    Calls Tryd.prog 62 #[.agg #[.string nm, .slice a n cap, .int .i64 wt], .slice a2 ke c2] w (IntB q w) := by
  have hS0 := Lib.hid (BxSt.new hφ #[.string nm, .slice a n cap, .int .i64 wt] 87)
  have hTT := Lib.hid ht
  obtain ⟨b, hb⟩ : ∃ b, Hid (nameB nm = b) := ⟨_, Lib.hid rfl⟩
  clear ht
  go_enter Tryd.func62, Tryd.ntmps62
  go_wp2_with fail
  refine (RIsName_any nm _ φ hS0.out.fz hTT.out hg hb).mono ?_
  rintro e w1 ⟨rfl, hb1⟩
  have hS1 := Lib.hid (hS0.out.callB hb1)
  clear hb1 hS0
  generalize hbx : w.heap.size = bx at *
  replace hbx := Lib.hid hbx
  cases b
  case false =>
    go_wp2
    go_ret
    exact ⟨ret_int (by rw [← hq.out, rfB, if_pos hb.out]), hS1.out.bel⟩
  go_wp2
  go_loopw [15] (fun i wr => ∃ k : Nat, k ≤ ke ∧ i = .int .i64 k ∧ Hid (∀ i, i < k → (ear.getD i fld0).1 ≠ nm) ∧ Hid (BxSt w φ bx #[.string nm, .slice a n cap, .int .i64 wt] 87 wr)) (fun i _ => ke - (intOf i).toNat)
  case atStart => exact ⟨0, Nat.zero_le _, rfl, Lib.hid (fun i hi => by omega), hS1⟩
  case round =>
    clear hS1
    obtain ⟨k, hk, rfl, hok, hS⟩ := hrel
    by_cases hlt : k < ke
    · obtain ⟨b1, o1, rfl, f1⟩ := se.fldD hke hlt
      obtain ⟨a3, c3, s3, f1⟩ := f1 k hlt
      obtain ⟨_, d1, d2, d3⟩ := f1 wr hS.out.fz
      have e0 : wr.cell? ⟨bx, 0, none⟩ = some (.string nm) := hS.out.k.cell 0
      have HY := Lib.hid (fun h : (ear.getD k fld0).1 = nm => names_some hke.out hlt h)
      have HN := Lib.hid (fun h : (ear.getD k fld0).1 ≠ nm => names_next hok h)
      clear f1
      generalize ear.getD k fld0 = X at *
      obtain ⟨nk, ck, wk⟩ := X
      dsimp only at d1 d2 d3 HY HN
      have hSa := Lib.hid (hS.out.alloc (.cells #[.string nk, .slice a3 ck.length c3, .int .i64 wk] 87))
      have e0' := hSa.out.k.cell 0
      by_cases he : nk = nm
      · have hb1 := str_eq_t he
        have HE := Lib.hid (HY.out he)
        clear he
        go_wp2
        go_ret
        exact ⟨ret_int (by rw [← hq.out, rfB, if_neg (by rw [hb.out]; simp), if_pos HE.out]), hSa.out.bel⟩
      · have hb1 := str_eq_f he
        have HE := Lib.hid (HN.out he)
        clear he
        go_wp2
        go_roundw
        case rel => exact ⟨k + 1, by omega, by go_num, HE.out, hSa⟩
        case measure => simp [intOf]; omega
    · obtain rfl : k = ke := by omega
      have hq2 : Hid (fieldF cs wt = q) := Lib.hid (by rw [← hq.out, rfB, if_neg (by rw [hb.out]; simp), if_neg (by rw [names_none hke.out hok.out]; simp)])
      have e1 : wr.cell? ⟨bx, 1, none⟩ = some (.slice a n cap) := hS.out.k.cell 1
      have e2 : wr.cell? ⟨bx, 2, none⟩ = some (.int .i64 wt) := hS.out.k.cell 2
      have hB := Lib.hid hS.out.bel
      have hF := Lib.hid hS.out.fz
      rw [hbx.out] at hB
      by_cases z : n = 0
      · have Z := Lib.hid z
        have zb : ((n : Int) == 0) = true := by simp [z]
        clear z
        go_wp2
        go_ret
        exact ⟨ret_int (by rw [← hq2.out, fieldF, hn.out, if_pos Z.out]), by rw [hbx.out]; exact hB.out⟩
      have zb : ((n : Int) == 0) = false := by simp; omega
      by_cases hl : 20 < n
      · go_wp2
        go_ret
        exact ⟨ret_int (by rw [← hq2.out, fieldF, hn.out, if_neg z, if_pos hl]), by rw [hbx.out]; exact hB.out⟩
      have h0 : 0 < n := by omega
      have z := Lib.hid z
      clear hS
      go_wp2
      clear zb
      go_loop [38] (fun i => ∃ k : Nat, k ≤ n ∧ i = .int .i64 k ∧ Hid (∀ i, i < k → codeBad cs i = 0)) (fun i => n - (intOf i).toNat)
      case atStart => exact ⟨0, Nat.zero_le _, rfl, none_yet _⟩
      case round =>
        obtain ⟨j, hj, rfl, hok2⟩ := hrel
        by_cases hlt : j < n
        · obtain ⟨b1, off, rfl, f⟩ := s.intsD hn hlt
          obtain ⟨_, c1⟩ := f j hlt wr hF.out
          have HP := Lib.hid (fun h : 0 < j => (f (j - 1) (by omega) wr hF.out).2)
          have hbad : Hid (codeBad cs j = _) := Lib.hid (codeBad.eq_1 cs j)
          clear f
          generalize cs.getD j 0 = m at *
          generalize cs.getD (j - 1) 0 = p at *
          obtain ⟨o1, ho1⟩ : ∃ o, Hid (outB m 1 999 = o) := ⟨_, Lib.hid rfl⟩
          cases o1
          case true =>
            go_wp2_with (go_at_call 38; refine (within_b _ _ _ _ ho1.out).mono ?_; rintro e w' ⟨rfl, rfl⟩)
            go_ret
            exact ⟨ret_int ((fieldF_at hn h0 (by omega) hlt hok2 (by rw [hbad.out, if_pos ho1.out]) (by decide)).symm.trans hq2.out), by rw [hbx.out]; exact hB.out⟩
          by_cases h3 : 0 < j
          · have hpp := HP.out h3
            have hix : 0 ≤ (j : Int) - 1 := by omega
            have hix2 : (j : Int) - 1 < n := by omega
            have hto : ((j : Int) - 1).toNat = j - 1 := by omega
            have h3i : decide ((0 : Int) < j) = true := decide_eq_true (by omega)
            go_wp2_with (go_at_call 38; refine (within_b _ _ _ _ ho1.out).mono ?_; rintro e w' ⟨rfl, rfl⟩)
            all_goals first
              | (go_ret; exact ⟨ret_int ((fieldF_at hn h0 (by omega) hlt hok2 (by rw [hbad.out, if_neg (by rw [ho1.out]; simp), if_pos (by omega)]) (by decide)).symm.trans hq2.out), by rw [hbx.out]; exact hB.out⟩)
              | (go_round
                 case rel => exact ⟨j + 1, by omega, by go_num, next_ok hok2 (by rw [hbad.out, if_neg (by rw [ho1.out]; simp), if_neg (by omega)])⟩
                 case measure => simp [intOf]; omega)
          · have h3i : decide ((0 : Int) < j) = false := decide_eq_false (by omega)
            go_wp2_with (go_at_call 38; refine (within_b _ _ _ _ ho1.out).mono ?_; rintro e w' ⟨rfl, rfl⟩)
            go_round
            case rel => exact ⟨j + 1, by omega, by go_num, next_ok hok2 (by rw [hbad.out, if_neg (by rw [ho1.out]; simp), if_neg (by omega)])⟩
            case measure => simp [intOf]; omega
        · obtain rfl : j = n := by omega
          obtain ⟨o1, ho1⟩ : ∃ o, Hid (outB wt 1 1000 = o) := ⟨_, Lib.hid rfl⟩
          have e := Lib.hid (fieldF_ok (wt := wt) hn h0 (by omega) hok2)
          cases o1
          all_goals
            go_wp2_with (go_at_call 38; refine (within_b _ _ _ _ ho1.out).mono ?_; rintro e w' ⟨rfl, rfl⟩)
            go_ret
            exact ⟨ret_int (by rw [← hq2.out, e.out, ho1.out]; rfl), by rw [hbx.out]; exact hB.out⟩
noncomputable def reB (nm : ByteArray) (ss : List (List Int)) (ear : List Edt) (fs : List Fld) : Int := if nameB nm = false then 5 else if decide (nm ∈ ear.map (·.1)) = true then 6 else if ss.length ≠ fs.length then 3 else scan (setsBad fs ss) ss.length
theorem edtBad_re {fs : List Fld} {es : List Edt} {k : Nat} : edtBad fs es k = reB (es.getD k edt0).1 (es.getD k edt0).2 (es.take k) fs := by
  unfold edtBad reB seenL
  simp only [List.mem_reverse]
set_option maxRecDepth 100000 in
set_option maxHeartbeats 1000000 in
theorem checkEdit_any (nm : ByteArray) (ns : Nat) (a : Option Addr) (cap : Nat) (ss : List (List Int)) (w : World) (φ : Phi) (hφ : Fz φ w) (ht : TabP φ) (s : SlV φ a cap ss) (hn : Hid (ss.length = ns)) (hm : ns ≤ 9223372036854775807) (hg : nm.size ≤ reachBytes)
    (ke : Nat) (a2 : Option Addr) (c2 : Nat) (ear : List Edt) (se : SlV φ a2 c2 ear) (hke : Hid (ear.length = ke)) (hme : ke ≤ 9223372036854775807) (n : Nat) (a3 : Option Addr) (c3 : Nat) (fs : List Fld) (sf : SlV φ a3 c3 fs) (hnf : Hid (fs.length = n)) (hmf : n ≤ 9223372036854775807) {q : Int} (hq : Hid (reB nm ss ear fs = q)) :
    Calls Tryd.prog 63 #[.agg #[.string nm, .slice a ns cap], .slice a2 ke c2, .slice a3 n c3] w (IntB q w) := by
  have hS0 := Lib.hid (BxSt.new hφ #[.string nm, .slice a ns cap] 95)
  have hTT := Lib.hid ht
  obtain ⟨b, hb⟩ : ∃ b, Hid (nameB nm = b) := ⟨_, Lib.hid rfl⟩
  clear ht
  go_enter Tryd.func63, Tryd.ntmps63
  go_wp2_with fail
  refine (RIsName_any nm _ φ hS0.out.fz hTT.out hg hb).mono ?_
  rintro e w1 ⟨rfl, hb1⟩
  have hS1 := Lib.hid (hS0.out.callB hb1)
  clear hb1 hS0
  generalize hbx : w.heap.size = bx at *
  replace hbx := Lib.hid hbx
  cases b
  case false =>
    go_wp2
    go_ret
    exact ⟨ret_int (by rw [← hq.out, reB, if_pos hb.out]), hS1.out.bel⟩
  go_wp2
  go_loopw [19] (fun i wr => ∃ k : Nat, k ≤ ke ∧ i = .int .i64 k ∧ Hid (∀ i, i < k → (ear.getD i edt0).1 ≠ nm) ∧ Hid (BxSt w φ bx #[.string nm, .slice a ns cap] 95 wr)) (fun i _ => ke - (intOf i).toNat)
  case atStart => exact ⟨0, Nat.zero_le _, rfl, Lib.hid (fun i hi => by omega), hS1⟩
  case round =>
    clear hS1
    obtain ⟨k, hk, rfl, hok, hS⟩ := hrel
    by_cases hlt : k < ke
    · obtain ⟨b1, o1, rfl, f1⟩ := se.edtD hke hlt
      obtain ⟨a4, c4, s4, f1⟩ := f1 k hlt
      obtain ⟨_, d1, d2⟩ := f1 wr hS.out.fz
      have e0 : wr.cell? ⟨bx, 0, none⟩ = some (.string nm) := hS.out.k.cell 0
      have HY := Lib.hid (fun h : (ear.getD k edt0).1 = nm => names_some hke.out hlt h)
      have HN := Lib.hid (fun h : (ear.getD k edt0).1 ≠ nm => names_next hok h)
      clear f1
      generalize ear.getD k edt0 = X at *
      obtain ⟨nk, ck⟩ := X
      dsimp only at d1 d2 HY HN
      have hSa := Lib.hid (hS.out.alloc (.cells #[.string nk, .slice a4 ck.length c4] 95))
      have e0' := hSa.out.k.cell 0
      by_cases he : nk = nm
      · have hb1 := str_eq_t he
        have HE := Lib.hid (HY.out he)
        clear he
        go_wp2
        go_ret
        exact ⟨ret_int (by rw [← hq.out, reB, if_neg (by rw [hb.out]; simp), if_pos HE.out]), hSa.out.bel⟩
      · have hb1 := str_eq_f he
        have HE := Lib.hid (HN.out he)
        clear he
        go_wp2
        go_roundw
        case rel => exact ⟨k + 1, by omega, by go_num, HE.out, hSa⟩
        case measure => simp [intOf]; omega
    · obtain rfl : k = ke := by omega
      have hq2 : Hid ((if ss.length ≠ fs.length then 3 else scan (setsBad fs ss) ss.length) = q) := Lib.hid (by have h := hq.out; rw [reB, if_neg (by rw [hb.out]; simp), if_neg (by rw [names_none hke.out hok.out]; simp)] at h; exact h)
      rw [hn.out, hnf.out] at hq2
      have e1 : wr.cell? ⟨bx, 1, none⟩ = some (.slice a ns cap) := hS.out.k.cell 1
      have hB := Lib.hid hS.out.bel
      have hF := Lib.hid hS.out.fz
      rw [hbx.out] at hB
      by_cases hne : ns = n
      case neg =>
        have hb1 : ((ns : Int) != n) = true := by simp; omega
        have HNE := Lib.hid hne
        clear hne
        go_wp2
        go_ret
        exact ⟨ret_int (by rw [← hq2.out, if_pos HNE.out]), by rw [hbx.out]; exact hB.out⟩
      subst hne
      have hb1 : ((ns : Int) != ns) = false := by simp
      have hq3 : Hid (scan (setsBad fs ss) ns = q) := Lib.hid (by have h := hq2.out; rwa [if_neg (by simp)] at h)
      clear hS
      go_wp2
      clear hb1
      go_loop [38] (fun i => ∃ k : Nat, k ≤ ns ∧ i = .int .i64 k ∧ Hid (∀ i, i < k → setsBad fs ss i = 0)) (fun i => ns - (intOf i).toNat)
      case atStart => exact ⟨0, Nat.zero_le _, rfl, none_yet _⟩
      case round =>
        obtain ⟨j, hj, rfl, hok2⟩ := hrel
        by_cases hlt : j < ns
        · obtain ⟨b1, o1, rfl, f1⟩ := s.lists hn hlt
          obtain ⟨a5, c5, s5, f1⟩ := f1 j hlt
          have d1 := (f1 wr hF.out).2
          obtain ⟨bf, of_, hab, fF⟩ := sf.fldD hnf hlt
          obtain ⟨a6, c6, s6, fF⟩ := fF j hlt
          have d2 := (fF wr hF.out).2.2.1
          subst hab
          have hbad : Hid (setsBad fs ss j = setF (ss.getD j []) (fs.getD j fld0).2.1) := Lib.hid rfl
          clear f1 fF
          generalize ss.getD j [] = st at *
          generalize (fs.getD j fld0).2.1 = cd at *
          obtain ⟨n1, hn1⟩ : ∃ n1, Hid (st.length = n1) := ⟨_, Lib.hid rfl⟩
          obtain ⟨n2, hn2⟩ : ∃ n2, Hid (cd.length = n2) := ⟨_, Lib.hid rfl⟩
          rw [hn1.out] at d1
          rw [hn2.out] at d2
          have l1 := s5.capn
          have l2 := s5.capm
          have l3 := s6.capn
          have l4 := s6.capm
          rw [hn1.out] at l1
          rw [hn2.out] at l3
          unfold maxLen at l2 l4
          by_cases z : n1 = 0
          · have Z := Lib.hid z
            have zb : ((n1 : Int) == 0) = true := by simp [z]
            clear z
            go_wp2
            go_ret
            have hc : setF st cd = 9 := by rw [setF, hn1.out, if_pos Z.out]
            exact ⟨ret_int (by rw [← hq3.out, scan_stop hok2.out hlt (by rw [hbad.out, hc]; decide), hbad.out, hc]), by rw [hbx.out]; exact hB.out⟩
          have zb : ((n1 : Int) == 0) = false := by simp; omega
          have h0 : 0 < n1 := by omega
          have z := Lib.hid z
          go_wp2
          clear zb d1
          go_loop [48] (fun i => ∃ k : Nat, k ≤ n1 ∧ i = .int .i64 k ∧ Hid (∀ i, i < k → setBad st cd i = 0)) (fun i => n1 - (intOf i).toNat)
          case atStart => exact ⟨0, Nat.zero_le _, rfl, none_yet _⟩
          case round =>
            obtain ⟨p, hp, rfl, hok3⟩ := hrel
            by_cases hlt2 : p < n1
            · obtain ⟨bt, ot, rfl, fT⟩ := s5.intsD hn1 hlt2
              have y1 := (fT p hlt2 wr hF.out).2
              have HP := Lib.hid (fun h : 0 < p => (fT (p - 1) (by omega) wr hF.out).2)
              have hbd : Hid (setBad st cd p = _) := Lib.hid (setBad.eq_1 st cd p)
              clear fT
              generalize st.getD p 0 = u at *
              generalize st.getD (p - 1) 0 = v at *
              have STOP : Hid (∀ c, setBad st cd p = c → c ≠ 0 → q = c) := Lib.hid (fun c hc hc0 => by
                have h1 : setF st cd = c := setF_at hn1 h0 hlt2 hok3 hc hc0
                rw [← hq3.out, scan_stop hok2.out hlt (by rw [hbad.out, h1]; exact hc0), hbad.out, h1])
              obtain ⟨o1, ho1⟩ : ∃ o, Hid (decide (u ∈ cd) = o) := ⟨_, Lib.hid rfl⟩
              cases o1
              case false =>
                go_wp2_with (go_at_call 42; refine (Contains_b n2 a6 c6 cd u wr φ hF.out s6 hn2 (by omega) ho1.out).mono ?_; rintro e w' ⟨rfl, rfl⟩)
                go_ret
                exact ⟨ret_int (STOP.out 1 (by rw [hbd.out, if_pos ho1.out]) (by decide)).symm, by rw [hbx.out]; exact hB.out⟩
              by_cases h3 : 0 < p
              · have hpp := HP.out h3
                have hix : 0 ≤ (p : Int) - 1 := by omega
                have hix2 : (p : Int) - 1 < n1 := by omega
                have hto : ((p : Int) - 1).toNat = p - 1 := by omega
                have h3i : decide ((0 : Int) < p) = true := decide_eq_true (by omega)
                go_wp2_with (go_at_call 42; refine (Contains_b n2 a6 c6 cd u wr φ hF.out s6 hn2 (by omega) ho1.out).mono ?_; rintro e w' ⟨rfl, rfl⟩)
                all_goals first
                  | (go_ret; exact ⟨ret_int (STOP.out 7 (by rw [hbd.out, if_neg (by rw [ho1.out]; simp), if_pos (by omega)]) (by decide)).symm, by rw [hbx.out]; exact hB.out⟩)
                  | (go_round
                     case rel => exact ⟨p + 1, by omega, by go_num, next_ok hok3 (by rw [hbd.out, if_neg (by rw [ho1.out]; simp), if_neg (by omega)])⟩
                     case measure => simp [intOf]; omega)
              · have h3i : decide ((0 : Int) < p) = false := decide_eq_false (by omega)
                go_wp2_with (go_at_call 42; refine (Contains_b n2 a6 c6 cd u wr φ hF.out s6 hn2 (by omega) ho1.out).mono ?_; rintro e w' ⟨rfl, rfl⟩)
                go_round
                case rel => exact ⟨p + 1, by omega, by go_num, next_ok hok3 (by rw [hbd.out, if_neg (by rw [ho1.out]; simp), if_neg (by omega)])⟩
                case measure => simp [intOf]; omega
            · obtain rfl : p = n1 := by omega
              go_wp2
              go_round
              case rel => exact ⟨j + 1, by omega, by go_num, next_ok hok2 (by rw [hbad.out]; exact setF_ok hn1 h0 hok3)⟩
              case measure => simp [intOf]; omega
        · obtain rfl : j = ns := by omega
          go_wp2
          go_ret
          exact ⟨ret_int (by rw [← hq3.out, scan_zero _ _ hok2.out]), by rw [hbx.out]; exact hB.out⟩
end Go.Proofs.YtambgcijceecpaaDoor
