/- The walks of the reference's Below, open, checkMargin and CheckMargins. Conditions: the library's tables of blanks and of powers of ten read as they were laid. The walks of the reference's open and CheckMargins. Conditions: the library's tables of blanks and of powers of ten read as they were laid. The walk of the reference's CheckPeople. Conditions: the library's tables of blanks and of powers of ten read as they were laid. Conditions: none beyond what the claim form gives. -/
import Derived.Test.YtmlpjffnmkndoaaGreatDoorHA
import Derived.Test.YtmlpjffnmkndoaaGreatDoorEQ
import Derived.Test.YtmlpjffnmkndoaaGreatDoorJE
import Derived.Test.YtmlpjffnmkndoaaGreatDoorB23
import Derived.Test.YtmlpjffnmkndoaaGreatDoorB22
import Derived.Outline
import Derived.Test.YtmlpjffnmkndoaaGreatDoorJB
namespace Go.Proofs.YtmlpjffnmkndoaaGreatDoor
open Go.RowKit
set_option linter.unusedVariables false
set_option linter.unusedSimpArgs false
theorem RBelow_any {v : Value} {x : Rat} {N D : Nat} {w : World} {φ : Phi} (hφ : Fz φ w) (h : FrX φ v x N D) {b : Bool} (hb : Hid (decide (x < 0) = b)) :
  Calls Tryz.prog 16 #[v] w (fun e w' => e = .returned (.bool b) ∧ Below w.heap.size w w') := by
 obtain ⟨neg, n, d, k1, k2, a1, c1, a2, c2, rfl, s1, s2, h1, h2, hd, hn, hnd, hx⟩ := h.open
 have HB := Lib.hid ((Below.refl w.heap.size w).alloc (Nat.le_refl _) (.cells #[.bool neg, .slice a1 k1 c1, .slice a2 k2 c2] 36))
 have hk9 : k1 ≤ 9223372036854775807 := by have h3 := s1.capn; have h4 := s1.capm; rw [h1.out] at h3; unfold maxLen at h4; omega
 have hz := rat_zero_iff hd hx
 have hng := fun hn0 => rat_neg_iff hd hn0 hx
 by_cases h0 : k1 = 0
 ·have hn0 : n = 0 := limbs_len0.1 (by rw [h1.out]; exact h0)
  have hb1 : Hid (b = false) := Lib.hid (by
   rw [← hb.out]
   refine decide_eq_false (fun e => ?_)
   rw [hz.2 hn0] at e
   exact absurd e (Rat.lt_irrefl))
  subst h0
  clear hz hx hng
  cases neg
  ·go_enter Tryz.func16, Tryz.ntmps16
   go_wp2
   go_ret
   exact ⟨ret_bool hb1.out.symm, HB.out⟩
  ·go_enter Tryz.func16, Tryz.ntmps16
   go_wp2
   go_ret
   exact ⟨ret_bool hb1.out.symm, HB.out⟩
 ·have hn0 : 0 < n := Nat.pos_of_ne_zero (fun e => h0 (by rw [← h1.out, e, limbs_zero]; rfl))
  have h0i : (0 : Int) < (k1 : Int) := by omega
  have hneg := hng hn0
  clear hz hx hng
  cases neg
  ·have hb1 : Hid (b = false) := Lib.hid (by rw [← hb.out]; exact decide_eq_false (fun e => by have := hneg.1 e; exact absurd this (by decide)))
   clear hneg
   go_enter Tryz.func16, Tryz.ntmps16
   go_wp2
   go_ret
   exact ⟨ret_bool hb1.out.symm, HB.out⟩
  ·have hb1 : Hid (b = true) := Lib.hid (by rw [← hb.out]; exact decide_eq_true (hneg.2 rfl))
   clear hneg
   go_enter Tryz.func16, Tryz.ntmps16
   go_wp2
   go_ret
   exact ⟨ret_bool (by rw [hb1.out]; simp; omega), HB.out⟩
set_option maxRecDepth 100000 in
set_option maxHeartbeats 4000000 in
theorem RcheckMargin_any {M : Nat} (hD : Hid (RdivOk M)) (hM : LenB M) (hM2 : p10 2000 ≤ M) {n k : Nat} (hk : k ≤ n) {a : Option Addr} {cap : Nat} {m : List Mgn} {nm : ByteArray} {tl : List Rti} {ar : Option Addr} {nt cr : Nat} {w : World} {φ : Phi} (hφ : Fz φ w) (hp : PowP φ) (htp : TabP φ) (sl : SlV φ a cap m) (hn : Hid (m.length = n)) (st : SlV φ ar cr tl) (hnt : Hid (tl.length = nt)) (hgn : nm.size ≤ reachBytes) (hsz : Hid (∀ r ∈ tl, RtiG r)) {f : Int} (hf : Hid ((if nameB nm = false then 5 else if decide (nm ∈ mnmL m k) = true then 6 else ttsF tl) = f)) :
  Calls Tryz.prog 61 #[.agg #[.string nm, .slice ar nt cr], .slice a k cap] w (fun e w' => e = .returned (.int .i64 f) ∧ Below w.heap.size w w') := by
 have HM2 := Lib.hid hM2
 have HSL := Lib.hid sl
 have HST := Lib.hid st
 have hnl : n ≤ 9223372036854775807 := by have := sl.capn; have := sl.capm; rw [hn.out] at *; unfold maxLen at *; omega
 have hntl : nt ≤ 9223372036854775807 := by have := st.capn; have := st.capm; rw [hnt.out] at *; unfold maxLen at *; omega
 obtain ⟨φb, lb, ib, eb⟩ := (Inv.start hφ).frz (.cells #[.string nm, .slice ar nt cr] 30)
 have HI := Lib.hid ib
 have EB := Lib.hid eb
 have LB := Lib.hid lb
 have HP := Lib.hid (hp.mono lb)
 have HTP := Lib.hid (htp.mono lb)
 obtain ⟨o1, ho1⟩ : ∃ o, Hid (nameB nm = o) := ⟨_, Lib.hid rfl⟩
 have hf1 := hf.out
 rw [ho1.out] at hf1
 have HF := Lib.hid hf1
 clear hM2 sl st lb ib eb hφ hp htp hf1 hf
 cases o1
 case false =>
  have HQ : Hid (f = 5) := Lib.hid (by rw [← HF.out, if_pos rfl])
  go_enter Tryz.func61, Tryz.ntmps61
  go_upto_region 1 with fail
  have u0 : (w.alloc (.cells #[.string nm, .slice ar nt cr] 30)).cell? ⟨w.heap.size, 0, none⟩ = some (.string nm) := box_cell EB.out φb.le_refl HI.out.fz 0
  generalize w.alloc (.cells #[.string nm, .slice ar nt cr] 30) = wx at *
  go_wp2_with (go_at_call 112; (with_reducible refine (RIsName_any nm _ φb HI.out.fz HTP.out hgn ho1).mono ?_); rintro e w1 ⟨rfl, hb1⟩; have I1 := Lib.hid (HI.out.callB hb1); clear hb1)
  go_ret
  exact ⟨ret_int HQ.out.symm, I1.out.bel⟩
 case true =>
  rw [if_neg (by simp)] at HF
  have hmm : ∀ s : ByteArray, s ∈ mnmL m k ↔ ∃ i, i < k ∧ (m.getD i mgn0).1 = s := mnmL_mem hn.out hk
  have hin : Hid (∀ i, i < k → (m.getD i mgn0).1 = nm → f = 6) := Lib.hid (fun i hi e => by rw [← HF.out, if_pos (decide_eq_true ((hmm nm).2 ⟨i, hi, e⟩))])
  have hout : Hid ((∀ i, i < k → ¬ (m.getD i mgn0).1 = nm) → ttsF tl = f) := Lib.hid (fun h => by
   rw [← HF.out, if_neg (by
    intro e
    obtain ⟨i, hi, e2⟩ := (hmm nm).1 (of_decide_eq_true e)
    exact h i hi e2)])
  clear hmm HF
  go_enter Tryz.func61, Tryz.ntmps61
  go_upto_region 1 with fail
  have u0 : (w.alloc (.cells #[.string nm, .slice ar nt cr] 30)).cell? ⟨w.heap.size, 0, none⟩ = some (.string nm) := box_cell EB.out φb.le_refl HI.out.fz 0
  generalize w.alloc (.cells #[.string nm, .slice ar nt cr] 30) = wx at *
  obtain ⟨b2, hb2⟩ : ∃ b, w.heap.size = b := ⟨_, rfl⟩
  rw [hb2] at EB u0 ⊢
  have HB2 := Lib.hid hb2
  clear hb2
  go_upto_region 3 with (go_at_call 112; (with_reducible refine (RIsName_any nm _ φb HI.out.fz HTP.out hgn ho1).mono ?_); rintro e w1 ⟨rfl, hb1⟩; have I1 := Lib.hid (HI.out.callB hb1); clear hb1)
  clear u0 HI
  go_wp2
  go_loopw [16] (fun i wr => ∃ j : Nat, j ≤ k ∧ i = .int .i64 j ∧ Hid (∀ i, i < j → ¬ (m.getD i mgn0).1 = nm) ∧ Hid (Inv w.heap.size w φ φb wr)) (fun i _ => k - (intOf i).toNat)
  case atStart => exact ⟨0, Nat.zero_le _, rfl, Lib.hid (fun i hi => absurd hi (Nat.not_lt_zero i)), I1⟩
  case round =>
   clear I1
   obtain ⟨j, hj, rfl, hok, hI⟩ := hrel
   by_cases hlt : j < k
   ·have hlti : (j : Int) < (k : Int) := by omega
    obtain ⟨b, off, rfl, fc⟩ := HSL.out.mgnsD hn (show j < n by omega)
    obtain ⟨arj, crj, _, f2⟩ := fc j (by omega)
    obtain ⟨c1, c2⟩ := f2 wr (hI.out.fz.sub LB.out)
    have hin2 := Lib.hid (hin.out j hlt)
    generalize hX : (m.getD j mgn0) = X at *
    obtain ⟨nmj, tlj⟩ := X
    replace hX := Lib.hid hX
    dsimp only at c1 c2
    have hin3 : Hid (nmj = nm → f = 6) := hin2
    obtain ⟨ntj, hntj⟩ : ∃ x, tlj.length = x := ⟨_, rfl⟩
    rw [hntj] at c2
    have I1 := Lib.hid (hI.out.alloc (.cells #[.string nmj, .slice arj ntj crj] 30))
    have z0 : (wr.alloc (.cells #[.string nmj, .slice arj ntj crj] 30)).cell? ⟨b2, 0, none⟩ = some (.string nm) := box_cell EB.out φb.le_refl I1.out.fz 0
    clear fc f2 hntj hI hin2
    by_cases he : nmj = nm
    ·have hs := str_eq_t he
     have HQ := Lib.hid (hin3.out he)
     clear he
     go_wp2
     go_ret
     exact ⟨ret_int HQ.out.symm, I1.out.bel⟩
    ·have hs := str_eq_f he
     have hok2 : Hid (∀ i, i < j + 1 → ¬ (m.getD i mgn0).1 = nm) := Lib.hid (fun i hi e => by
      by_cases h : i = j
      ·subst h; rw [hX.out] at e; exact he e
      ·exact hok.out i (by omega) e)
     clear he
     go_wp2
     go_roundw
     case rel => exact ⟨j + 1, by omega, by go_num, hok2, I1⟩
     case measure => (simp [intOf] <;> omega)
   ·have hkj : k = j := by omega
    subst hkj
    have htt := Lib.hid (hout.out hok.out)
    clear hout hin hok
    have z1 : wr.cell? ⟨b2, 1, none⟩ = some (.slice ar nt cr) := box_cell EB.out φb.le_refl hI.out.fz 1
    by_cases h0 : nt = 0
    ·have h0i : ((nt : Int) == 0) = true := by simp [h0]
     have HQ : Hid (f = 9) := Lib.hid (by rw [← htt.out]; unfold ttsF; rw [if_pos (by rw [hnt.out]; exact h0)])
     clear h0
     go_wp2
     go_ret
     exact ⟨ret_int HQ.out.symm, hI.out.bel⟩
    have h0i : ((nt : Int) == 0) = false := by simp [h0]
    by_cases h3 : 40 < nt
    ·have h3i : (40 : Int) < (nt : Int) := by omega
     have HQ : Hid (f = 2) := Lib.hid (by rw [← htt.out]; unfold ttsF; rw [if_neg (by rw [hnt.out]; exact h0), if_pos (by rw [hnt.out]; exact h3)])
     clear h3 h0
     go_wp2
     go_ret
     exact ⟨ret_int HQ.out.symm, hI.out.bel⟩
    have h3i : ¬ (40 : Int) < (nt : Int) := by omega
    have h3n : nt ≤ 40 := by omega
    have h0n := Lib.hid h0
    clear h3 h0
    go_wp2
    clear z1
    go_loopw [39] (fun iv wr => ∃ (q : Nat), q ≤ nt ∧ iv = .int .i64 (q : Int) ∧ Hid (∀ i, i < q → ttlF (tl.getD i rti0) = 0) ∧ Hid (Inv w.heap.size w φ φb wr)) (fun iv _ => nt - (intOf iv).toNat)
    case atStart => exact ⟨0, Nat.zero_le _, rfl, none_yet _, hI⟩
    case round =>
     clear hI
     rename World => wr
     obtain ⟨q, hq, rfl, hok, hS⟩ := hrel
     by_cases hlt : q < nt
     ·have hlti : (q : Int) < (nt : Int) := by omega
      obtain ⟨b, off, rfl, fc⟩ := HST.out.rtisD hnt hlt
      obtain ⟨d0, d1⟩ := fc q hlt wr (hS.out.fz.sub LB.out)
      have hm : tl.getD q rti0 ∈ tl := by rw [getD_elem0 _ _ _ (by rw [hnt.out]; exact hlt)]; exact List.getElem_mem _
      obtain ⟨p, hpe⟩ : ∃ p, tl.getD q rti0 = p := ⟨_, rfl⟩
      rw [hpe] at hm d0 d1
      have hgg := hsz.out p hm
      have hst := Lib.hid (fun (g : Int) (hq : ttlF p = g) (e : g ≠ 0) => ttsF_stop hnt.out h0n.out h3n hlt hok.out (by rw [hpe]; exact hq) e)
      have hnx := Lib.hid (fun (e : ttlF p = 0) => next_ok (f := fun i => ttlF (tl.getD i rti0)) hok (by show ttlF (tl.getD q rti0) = 0; rw [hpe, e]))
      rw [htt.out] at hst
      obtain ⟨s, t⟩ := p
      have hs : s.size ≤ 9223372036854775807 := hgg.1
      have ht : t.size ≤ 9223372036854775807 := hgg.2
      dsimp only at d0 d1
      have S1 := Lib.hid (hS.out.alloc (.cells #[.string s, .string t] 32))
      have HK := Lib.hid (Blk.new wr #[.string s, .string t] 32)
      obtain ⟨g, hg⟩ : ∃ g, Hid (shoF s t = g) := ⟨_, Lib.hid rfl⟩
      obtain ⟨r, hr⟩ : ∃ r, Hid (ratX s t = r) := ⟨_, Lib.hid rfl⟩
      have hte : Hid (ttlF (s, t) = if g ≠ 0 then g else if r < 0 then 1 else 0) := Lib.hid (by unfold ttlF; dsimp only; rw [hg.out, hr.out])
      clear fc hm hgg hpe hS
      go_upto_region 16 with fail
      generalize wr.alloc (.cells #[.string s, .string t] 32) = wa at *
      generalize wr.heap.size = b8 at *
      clear d0 d1
      have x0 : wa.cell? ⟨b8, 0, none⟩ = some (.string s) := HK.out.cell 0
      have x1 : wa.cell? ⟨b8, 1, none⟩ = some (.string t) := HK.out.cell 1
      by_cases hg0 : g = 0
      ·subst hg0
       have hrk := Lib.hid (ratF_ok (shoF_ok hg.out).1)
       by_cases hr0 : r < 0
       ·have hbl : Hid (decide (r < 0) = true) := Lib.hid (decide_eq_true hr0)
        have HQ : Hid (f = 1) := Lib.hid (by
         have h9 : ttlF (s, t) = 1 := by rw [hte.out, if_neg (by simp), if_pos hr0]
         exact hst.out 1 h9 (by decide))
        clear hst hnx hr0
        go_wp2_with (first
         | (go_at_call 72; (with_reducible refine (ShortRatio_any hM HM2.out hs ht hg S1.out.fz HP.out).mono ?_); rintro e w2 ⟨rfl, hb2⟩; have S2 := Lib.hid (S1.out.callB hb2); have K2 := Lib.hid (HK.out.callB hb2); have y0 : w2.cell? ⟨b8, 0, none⟩ = some (.string s) := K2.out.cell 0; have y1 : w2.cell? ⟨b8, 1, none⟩ = some (.string t) := K2.out.cell 1; clear hb2)
         | (go_at_call 12; (with_reducible refine (RFracOf_any hrk.out S2.out.fz).mono ?_); rintro e w3 ⟨v3, φ3, rfl, hi3, hv3⟩; rw [hr.out] at hv3; have S3 := Lib.hid (S2.out.callB hi3.bel); have F3 := Lib.hid hi3.fz; have V3 := Lib.hid hv3; clear hi3 hv3)
         | (go_at_call 16; (with_reducible refine (RBelow_any F3.out V3.out hbl).mono ?_); rintro e w4 ⟨rfl, hb4⟩; have S4 := Lib.hid (S3.out.callB hb4); clear hb4))
        go_ret
        exact ⟨ret_int HQ.out.symm, S4.out.bel⟩
       ·have hbl : Hid (decide (r < 0) = false) := Lib.hid (decide_eq_false hr0)
        have hn2 := hnx.out (by rw [hte.out, if_neg (by simp), if_neg hr0])
        clear hst hnx hr0
        go_wp2_with (first
         | (go_at_call 72; (with_reducible refine (ShortRatio_any hM HM2.out hs ht hg S1.out.fz HP.out).mono ?_); rintro e w2 ⟨rfl, hb2⟩; have S2 := Lib.hid (S1.out.callB hb2); have K2 := Lib.hid (HK.out.callB hb2); have y0 : w2.cell? ⟨b8, 0, none⟩ = some (.string s) := K2.out.cell 0; have y1 : w2.cell? ⟨b8, 1, none⟩ = some (.string t) := K2.out.cell 1; clear hb2)
         | (go_at_call 12; (with_reducible refine (RFracOf_any hrk.out S2.out.fz).mono ?_); rintro e w3 ⟨v3, φ3, rfl, hi3, hv3⟩; rw [hr.out] at hv3; have S3 := Lib.hid (S2.out.callB hi3.bel); have F3 := Lib.hid hi3.fz; have V3 := Lib.hid hv3; clear hi3 hv3)
         | (go_at_call 16; (with_reducible refine (RBelow_any F3.out V3.out hbl).mono ?_); rintro e w4 ⟨rfl, hb4⟩; have S4 := Lib.hid (S3.out.callB hb4); clear hb4))
        go_roundw
        case rel => exact ⟨q + 1, by omega, by go_num, hn2, S4⟩
        case measure => (simp [intOf] <;> omega)
      ·have HQ : Hid (f = g) := Lib.hid (hst.out g (by rw [hte.out, if_pos hg0]) hg0)
       have h0i : (g == 0) = false := by simp [hg0]
       have h0j : (g != 0) = true := by simp [hg0]
       clear hst hnx hg0
       go_wp2_with (first
        | (go_at_call 72; (with_reducible refine (ShortRatio_any hM HM2.out hs ht hg S1.out.fz HP.out).mono ?_); rintro e w2 ⟨rfl, hb2⟩; have S2 := Lib.hid (S1.out.callB hb2); have K2 := Lib.hid (HK.out.callB hb2); have y0 : w2.cell? ⟨b8, 0, none⟩ = some (.string s) := K2.out.cell 0; have y1 : w2.cell? ⟨b8, 1, none⟩ = some (.string t) := K2.out.cell 1; clear hb2)
        | (go_at_call 12; (with_reducible refine (RFracOf_any hrk.out S2.out.fz).mono ?_); rintro e w3 ⟨v3, φ3, rfl, hi3, hv3⟩; rw [hr.out] at hv3; have S3 := Lib.hid (S2.out.callB hi3.bel); have F3 := Lib.hid hi3.fz; have V3 := Lib.hid hv3; clear hi3 hv3)
        | (go_at_call 16; (with_reducible refine (RBelow_any F3.out V3.out hbl).mono ?_); rintro e w4 ⟨rfl, hb4⟩; have S4 := Lib.hid (S3.out.callB hb4); clear hb4))
       go_ret
       exact ⟨ret_int HQ.out.symm, S2.out.bel⟩
     ·have hkn : nt = q := by omega
      subst hkn
      have hE : Hid (f = 0) := Lib.hid (by rw [← htt.out]; exact ttsF_zero hnt.out h0n.out h3n hok.out)
      go_wp2
      go_ret
      exact ⟨ret_int hE.out.symm, hS.out.bel⟩
end Go.Proofs.YtmlpjffnmkndoaaGreatDoor

namespace Go.Proofs.YtmlpjffnmkndoaaGreatDoor
open Go.RowKit
set_option linter.unusedVariables false
set_option linter.unusedSimpArgs false
abbrev rxR (r : Rti) : Rx 1000000000000 1000000000000 := ⟨ratX r.1 r.2⟩
set_option maxRecDepth 100000 in
set_option maxHeartbeats 2000000 in
theorem Ropen9_any {n : Nat} {a : Option Addr} {cap : Nat} {l : List Rti} {w : World} {φ : Phi} (hφ : Fz φ w) (sl : SlV φ a cap l) (hn : Hid (l.length = n)) (hn3 : n ≤ 3000) (hsz : Hid (∀ p ∈ l, RtiG p)) (hok : Hid (∀ p ∈ l, shoF p.1 p.2 = 0)) :
  Calls Tryz.prog 63 #[.slice a n cap] w (SlPost1 (l.map rxR) φ w) := by
 have hS0 : Hid (OwR w φ φ 36 none 0 ([] : List (Rx 1000000000000 1000000000000)) w) := Lib.hid ⟨Inv.start hφ, Own.nil _ _ _ _⟩
 clear hφ
 go_enter Tryz.func63, Tryz.ntmps63
 go_wp2
 go_loopw [3, 8] (fun ov iv wr => ∃ (k : Nat) (ao : Option Addr) (co : Nat) (os : List (Rx 1000000000000 1000000000000)) (φ' : Phi), k ≤ n ∧ iv = .int .i64 (k : Int) ∧ ov = .slice ao k co ∧ Hid (os.length = k) ∧ Hid (os = (l.take k).map rxR) ∧ Hid (OwR w φ φ' 36 ao co os wr)) (fun _ iv _ => n - (intOf iv).toNat)
 case atStart => exact ⟨0, none, 0, [], φ, Nat.zero_le _, rfl, rfl, Lib.hid rfl, Lib.hid rfl, hS0⟩
 case round =>
  clear hS0
  obtain ⟨k, ao, co, os, φ', hk, rfl, rfl, hol, hL, hS⟩ := hrel
  by_cases hlt : k < n
  ·have hlti : (k : Int) < (n : Int) := by omega
   obtain ⟨b, off, rfl, f⟩ := sl.rtisD hn hlt
   obtain ⟨d0, d1⟩ := f k hlt wr (hS.out.inv.fz.sub hS.out.inv.le)
   have hm : l.getD k rti0 ∈ l := by rw [getD_elem0 _ _ _ (by rw [hn.out]; exact hlt)]; exact List.getElem_mem _
   obtain ⟨p, hp⟩ : ∃ p, l.getD k rti0 = p := ⟨_, rfl⟩
   rw [hp] at hm d0 d1
   have hz := hok.out p hm
   have hg := hsz.out p hm
   obtain ⟨s, t⟩ := p
   have hz : shoF s t = 0 := hz
   have hs : s.size ≤ 9223372036854775807 := hg.1
   have ht : t.size ≤ 9223372036854775807 := hg.2
   dsimp only at d0 d1
   have hrf := Lib.hid (ratF_ok (shoF_ok hz).1)
   obtain ⟨hN, hDn⟩ := sho_lt hz
   have hC := Lib.hid (fun (ψ : Phi) W (hf : Fz ψ W) => RFracOf_any hrf.out hf)
   have HB := Lib.hid (And.intro hN hDn)
   have hnx : Hid (os ++ [⟨ratX s t⟩] = (l.take (k + 1)).map rxR) := Lib.hid (by
    rw [take_snocD rti0 l k n hn.out hlt, List.map_append, hp, hL.out]; rfl)
   have hS1 := Lib.hid (hS.out.alloc (.cells #[.string s, .string t] 32))
   clear f hm hz hg hp hN hDn hS
   go_wp2_with (first
    | (go_at_call 12; (with_reducible refine (hC.out φ' _ hS1.out.inv.fz).mono ?_); rintro e w4 ⟨v4, φ4, rfl, hi4, hv4⟩; have hv5 := hv4.le HB.out.1 HB.out.2; obtain ⟨g, a1, k1, c1, a2, k2, c2, rfl, hrep⟩ := hv5.rx; have hS4 := Lib.hid (hS1.out.call hi4); have hin := Lib.hid hS4.out.inv; have hon := Lib.hid hS4.out.own; have HREP := Lib.hid hrep; clear hi4 hv4 hv5 hrep)
    | (at_builtin; (refine wpList_app1F (α := Rx 1000000000000 1000000000000) rfl _ _ 93 rfl (slRx _ _) hin.out ao co os hon.out #[.bool g, .slice a1 k1 c1, .slice a2 k2 c2] 36 ⟨ratX s t⟩ HREP.out (by rw [hol.out]; rfl) 1 rfl (by rw [hol.out]; omega) ?_; intro a9 c9 w9 hi9 ho9 hg9 hf9; rw [show (os ++ [(⟨ratX s t⟩ : Rx 1000000000000 1000000000000)]).length = k + 1 from by rw [List.length_append, hol.out]; rfl])))
   go_roundw
   case rel => exact ⟨k + 1, a9, c9, os ++ [⟨ratX s t⟩], φ4, by omega, by go_num, rfl, Lib.hid (by rw [List.length_append, hol.out]; rfl), hnx, Lib.hid ⟨hi9, ho9⟩⟩
   case measure => (simp [intOf] <;> omega)
  ·obtain rfl : k = n := by omega
   obtain ⟨φ2, hl2, hi2, hs2, _⟩ := hS.out.own.release hS.out.inv
   have HI2 := Lib.hid hi2
   have e : os = l.map rxR := by
    have := hL.out
    rwa [List.take_of_length_le (by rw [hn.out]; exact Nat.le_refl _)] at this
   rw [e] at hs2
   have HS2 := Lib.hid hs2
   have hlen : Hid ((l.map rxR).length = k) := Lib.hid (by rw [List.length_map, hn.out])
   clear hi2 hs2 hS hl2 hL e
   go_wp2
   go_ret
   exact ⟨ao, co, φ2, (by rw [hlen.out]; rfl), HI2.out, HS2.out⟩
section
variable {M : Nat} {w W : World} {φ φ1 : Phi}
theorem Ropen_T {N : Nat} (hN : Hid (N = 1000000000000)) {a : Option Addr} {cap n : Nat} {l : List Rti} (sl : Hid (SlV φ a cap l)) (hl : Hid (TtsG l n)) (hI : Hid (Inv w.heap.size w φ φ1 W)) :
  Calls Tryz.prog 63 #[.slice a n cap] W (fun e w' => ∃ a' c' φ', e = .returned (.slice a' n c') ∧ Hid (Inv w.heap.size w φ φ' w') ∧ Hid (φ1.le φ') ∧ Hid (SlV φ' a' c' ((l.map rtx).map (Rx.mk (N := N) (D := N))))) := by
 refine (Ropen9_any hI.out.fz (sl.out.mono hI.out.le) (Lib.hid hl.out.1) (by have := hl.out.2.1; omega) (Lib.hid hl.out.2.2.1) (Lib.hid hl.out.2.2.2)).mono ?_
 rintro e w' ⟨a', c', φ', rfl, hi, hs⟩
 have hN' := hN.out
 subst hN'
 refine ⟨a', c', φ', by rw [List.length_map, hl.out.1], Lib.hid (hI.out.call hi), Lib.hid hi.le, Lib.hid ?_⟩
 rw [List.map_map]
 exact hs
theorem Rsum_T (hD : Hid (RdivOk M)) (hM : LenB M) (hM2 : Hid (p10 2000 ≤ M)) {K : Nat} (hK : Hid (p10 500 = K)) {N : Nat} (hN : Hid (N = 1000000000000)) {a : Option Addr} {cap n : Nat} {l : List Rti} {ψ : Phi} (sl : Hid (SlV ψ a cap ((l.map rtx).map (Rx.mk (N := N) (D := N))))) (hle : Hid (ψ.le φ1)) (hl : Hid (TtsG l n)) {S : Rat} (hS : Hid (sumQ (l.map rtx) = S)) (hI : Hid (Inv w.heap.size w φ φ1 W)) :
  Calls Tryz.prog 62 #[.slice a n cap] W (fun e w' => ∃ v φ', e = .returned v ∧ Hid (Inv w.heap.size w φ φ' w') ∧ Hid (φ1.le φ') ∧ Hid (FrX φ' v S K K)) := by
 obtain ⟨e1, e2⟩ := p10_500 hl.out.2.1 hN
 have e3 : p10 500 ≤ M := Nat.le_trans (p10_leH (by decide)) hM2.out
 rw [hK.out] at e1 e2 e3
 have hN1 : 1 ≤ N := by rw [hN.out]; decide
 refine (Rsum_any hD hM hN1 (Nat.le_trans e1 e3) (Nat.le_trans e2 e3) hI.out.fz (sl.out.mono hle.out) (Lib.hid (by rw [List.length_map]; exact hl.out.1)) hS).mono ?_
 rintro e w' ⟨v, φ', rfl, hi, hv⟩
 exact ⟨v, φ', rfl, Lib.hid (hI.out.call hi), Lib.hid hi.le, Lib.hid (hv.le e1 e2)⟩
end
set_option maxRecDepth 100000 in
set_option maxHeartbeats 4000000 in
theorem RCheckMargins_any {M : Nat} (hD : Hid (RdivOk M)) (hM : LenB M) (hM2 : p10 2000 ≤ M) {n : Nat} {a : Option Addr} {cap : Nat} {m : List Mgn} {w : World} {φ : Phi} (hφ : Fz φ w) (hp : PowP φ) (htp : TabP φ) (sl : SlV φ a cap m) (hn : Hid (m.length = n)) (hsz : Hid (∀ x ∈ m, MgnG x)) {f : Int} (hf : Hid (mgsF m = f)) :
  Calls Tryz.prog 21 #[.slice a n cap] w (fun e w' => e = .returned (.int .i64 f) ∧ Below w.heap.size w w') := by
 have HM2 := Lib.hid hM2
 obtain ⟨K, hK⟩ : ∃ K, Hid (p10 500 = K) := ⟨_, Lib.hid rfl⟩
 have HMC := p10_cmp (by decide) hK HM2
 have hnc : n ≤ cap := by have := sl.capn; rw [hn.out] at this; exact this
 have hcm : cap ≤ 9223372036854775807 := by have := sl.capm; unfold maxLen at this; omega
 have hnl : n ≤ 9223372036854775807 := by omega
 by_cases h3 : 8 < n
 ·have h3i : (8 : Int) < (n : Int) := by omega
  have hq : Hid (f = 2) := Lib.hid (by rw [← hf.out]; exact mgsF_large (by rw [hn.out]; exact h3))
  clear h3
  go_enter Tryz.func21, Tryz.ntmps21
  go_wp2
  go_ret
  exact ⟨ret_int hq.out.symm, Below.refl _ _⟩
 have h3i : ¬ (8 : Int) < (n : Int) := by omega
 have h3n : n ≤ 8 := by omega
 clear h3
 obtain ⟨N, hN⟩ : ∃ N, Hid (N = 1000000000000) := ⟨_, Lib.hid rfl⟩
 have HFZ := Lib.hid hφ
 have HSL := Lib.hid sl
 have HP := Lib.hid hp
 have HTP := Lib.hid htp
 have hI00 : Hid (Inv w.heap.size w φ φ w) := Lib.hid (Inv.start hφ)
 clear hM2 hφ sl hp htp
 go_enter Tryz.func21, Tryz.ntmps21
 go_wp2
 go_loopw [13] (fun i wr => ∃ k : Nat, k ≤ n ∧ i = .int .i64 k ∧ Hid (∀ i, i < k → mgnF m i = 0) ∧ Hid (Inv w.heap.size w φ φ wr)) (fun i _ => n - (intOf i).toNat)
 case atStart => exact ⟨0, Nat.zero_le _, rfl, none_yet _, hI00⟩
 case round =>
  clear hI00
  obtain ⟨k, hk, rfl, hok, hS⟩ := hrel
  by_cases hlt : k < n
  ·have hlti : (k : Int) < (n : Int) := by omega
   have hkc : (k : Int) ≤ (cap : Int) := by omega
   have hkc2 : k ≤ cap := by omega
   obtain ⟨b, off, rfl, fc⟩ := HSL.out.mgnsD hn hlt
   obtain ⟨ar, cr, sk, f2⟩ := fc k hlt
   obtain ⟨c1, c2⟩ := f2 wr hS.out.fz
   have hbad : Hid (mgnF m k = _) := Lib.hid (mgnF.eq_1 m k)
   have hgk := Lib.hid (hsz.out _ (by rw [getD_elem0 mgn0 _ _ (by rw [hn.out]; exact hlt)]; exact List.getElem_mem _) : MgnG (m.getD k mgn0))
   have hstp := Lib.hid (fun (q : Int) (hq : mgnF m k = q) (e : q ≠ 0) => mgsF_stop hn.out h3n hlt hok.out hq e)
   rw [hf.out] at hstp
   clear fc f2
   generalize hX : m.getD k mgn0 = X at *
   obtain ⟨nm, tl⟩ := X
   replace hX := Lib.hid hX
   dsimp only at c1 c2 sk
   replace hbad : Hid (mgnF m k = if nameB nm = false then 5 else if decide (nm ∈ mnmL m k) = true then 6 else ttsF tl) := hbad
   obtain ⟨nt, hnt⟩ : ∃ nt, Hid (tl.length = nt) := ⟨_, Lib.hid rfl⟩
   rw [hnt.out] at c2
   have HSK := Lib.hid sk
   obtain ⟨q, hq⟩ : ∃ q, Hid (mgnF m k = q) := ⟨_, Lib.hid rfl⟩
   have hq2 := hbad.out.symm.trans hq.out
   have HQ2 := Lib.hid hq2
   obtain ⟨φ1, l1, i1, e1⟩ := hS.out.frz (.cells #[.string nm, .slice ar nt cr] 30)
   have I1 := Lib.hid i1
   have EB := Lib.hid e1
   clear hq2 hS sk l1 i1 e1 hbad
   go_upto_region 6 with fail
   generalize wr.alloc (.cells #[.string nm, .slice ar nt cr] 30) = wa at *
   generalize wr.heap.size = b4 at *
   clear c1 c2
   have Id : Hid (Inv w.heap.size w φ φ1 wa.drew) := Lib.hid I1.out.drew
   have y0 : wa.cell? ⟨b4, 0, none⟩ = some (.string nm) := box_cell EB.out φ1.le_refl I1.out.fz 0
   have y1 : wa.cell? ⟨b4, 1, none⟩ = some (.slice ar nt cr) := box_cell EB.out φ1.le_refl I1.out.fz 1
   have x0 : wa.drew.cell? ⟨b4, 0, none⟩ = some (.string nm) := y0
   have x1 : wa.drew.cell? ⟨b4, 1, none⟩ = some (.slice ar nt cr) := y1
   have hg1 : nm.size ≤ reachBytes := hgk.out.1
   have hg2 : Hid (∀ r ∈ tl, RtiG r) := Lib.hid hgk.out.2
   have HC := Lib.hid (RcheckMargin_any hD hM HM2.out (Nat.le_of_lt hlt) Id.out.fz (HP.out.mono Id.out.le) (HTP.out.mono Id.out.le) (HSL.out.mono Id.out.le) hn (HSK.out.mono Id.out.le) hnt hg1 hg2 HQ2)
   go_region_held3 (fun w' => w'.cell? ⟨b4, 0, none⟩ = some (.string nm) ∧ w'.cell? ⟨b4, 1, none⟩ = some (.slice ar nt cr)) (first | done | with_reducible exact ⟨x0, x1⟩ | with_reducible exact ⟨by assumption, by assumption⟩ | fail) (first
    | ((with_reducible refine HC.out.mono ?_); rintro e w3 ⟨rfl, hb3⟩; have I3 := Lib.hid (Id.out.callB hb3); have z0 : w3.cell? ⟨b4, 0, none⟩ = some (.string nm) := box_cell EB.out φ1.le_refl I3.out.fz 0; have z1 : w3.cell? ⟨b4, 1, none⟩ = some (.slice ar nt cr) := box_cell EB.out φ1.le_refl I3.out.fz 1; clear hb3)
    | fail)
   all_goals
    have IF := Lib.hid ((Inv.start HFZ.out).callB I3.out.bel)
    clear x0 x1 y0 y1 z0 z1
    by_cases hq0 : q = 0
    ·have hgg : ((q : Int) != 0) = false := by simp [hq0]
     have hn2 := next_ok hok (by rw [hq.out, hq0] : mgnF m k = 0)
     clear hq0 hstp
     go_wp2
     go_roundw
     case rel => exact ⟨k + 1, by omega, by go_num, hn2, IF⟩
     case measure => (simp [intOf] <;> omega)
    ·have hgg : ((q : Int) != 0) = true := by simp [hq0]
     have HQ := Lib.hid (hstp.out q hq.out hq0)
     clear hq0 hstp
     go_wp2
     go_ret
     exact ⟨ret_int HQ.out.symm, IF.out.bel⟩
  ·have hkn : n = k := by omega
   subst hkn
   have hI0 := hS
   have hcf := Lib.hid (mgsF_cfl hn.out h3n hok.out)
   rw [hf.out] at hcf
   have hgd : Hid (∀ i, i < n → TtsG (m.getD i mgn0).2 (m.getD i mgn0).2.length) := Lib.hid (fun i hi => TtsG.of (hsz.out _ (by rw [getD_elem0 mgn0 _ _ (by rw [hn.out]; exact hi)]; exact List.getElem_mem _)).2 (mgnF_ok (hok.out i hi)).2)
   clear hS hok
   go_wp2
   go_loopw [29] (fun i wr => ∃ k : Nat, k ≤ n ∧ i = .int .i64 k ∧ Hid (∀ i, i < k → cfl m i = 0) ∧ Hid (Inv w.heap.size w φ φ wr)) (fun i _ => n - (intOf i).toNat)
   case atStart => exact ⟨0, Nat.zero_le _, rfl, none_yet _, hI0⟩
   case round =>
    clear hI0
    rename World => wr
    obtain ⟨k, hk, rfl, hok, hI⟩ := hrel
    by_cases hlt : k < n
    ·have hlti : (k : Int) < (n : Int) := by omega
     have hn0 : 0 < n := by omega
     have hn0i : (0 : Int) < (n : Int) := by omega
     obtain ⟨b, off, rfl, fc⟩ := HSL.out.mgnsD hn hlt
     obtain ⟨ar, cr, sk, f2⟩ := fc k hlt
     obtain ⟨ar0, cr0, sk0, f20⟩ := fc 0 hn0
     obtain ⟨c1, c2⟩ := f2 wr hI.out.fz
     have HG := Lib.hid (hgd.out k hlt)
     have HG0 := Lib.hid (hgd.out 0 hn0)
     have hcw : Hid (cfl m k = if sumT (m.getD k mgn0) = sumT (m.getD 0 mgn0) then 0 else 17) := Lib.hid rfl
     have hst : Hid (cfl m k ≠ 0 → f = 17) := Lib.hid (fun e => by
      rw [hcf.out]
      have h1 := scan_stop (f := cfl m) hok.out hlt e
      rw [h1]
      unfold cfl at e ⊢
      split
      ·next h => rw [if_pos h] at e; exact absurd rfl e
      ·rfl)
     generalize m.getD k mgn0 = X at *
     have f20' := Lib.hid f20
     have HS0 := Lib.hid sk0
     generalize m.getD 0 mgn0 = X0 at *
     obtain ⟨nm, tl⟩ := X
     obtain ⟨nm0, tl0⟩ := X0
     dsimp only at c1 c2 sk HG HG0 HS0
     obtain ⟨nt, hnt⟩ : ∃ nt, tl.length = nt := ⟨_, rfl⟩
     obtain ⟨nt0, hnt0⟩ : ∃ nt, tl0.length = nt := ⟨_, rfl⟩
     rw [hnt] at c2 HG
     rw [hnt0] at HG0
     have HSK := Lib.hid sk
     obtain ⟨S1, hS1⟩ : ∃ x, Hid (sumQ (tl.map rtx) = x) := ⟨_, Lib.hid rfl⟩
     obtain ⟨S0, hS0⟩ : ∃ x, Hid (sumQ (tl0.map rtx) = x) := ⟨_, Lib.hid rfl⟩
     obtain ⟨q, hq⟩ : ∃ x, Hid (cmpQ S1 S0 = x) := ⟨_, Lib.hid rfl⟩
     have hcw2 : Hid (cfl m k = if S1 = S0 then 0 else 17) := Lib.hid (by rw [hcw.out, sumT_eq, sumT_eq, hS1.out, hS0.out])
     obtain ⟨φ1, l1, i1, e1⟩ := hI.out.frz (.cells #[.string nm, .slice ar nt cr] 30)
     have I1 := Lib.hid i1
     have EB := Lib.hid e1
     have hcf2 := Lib.hid (fun (ψ : Phi) (W : World) (hi9 : Hid (Inv w.heap.size w φ ψ W)) (hl9 : Hid (φ1.le ψ)) => (by
      have h := (f20'.out W (hi9.out.fz.sub hi9.out.le)).2
      simp only [Nat.zero_mul, Nat.add_zero] at h
      rw [hnt0] at h
      exact ⟨box_cell EB.out hl9.out hi9.out.fz 1, h⟩ : W.cell? ⟨wr.heap.size, 1, none⟩ = some (.slice ar nt cr) ∧ W.cell? ⟨b, off + 1, none⟩ = some (.slice ar0 nt0 cr0)))
     clear fc f2 f20 sk sk0 hI hcw f20' hnt hnt0 l1 i1 e1
     go_upto_region 13 with fail
     generalize wr.alloc (.cells #[.string nm, .slice ar nt cr] 30) = wa at *
     generalize wr.heap.size = b8 at *
     clear c1 c2
     have Id : Hid (Inv w.heap.size w φ φ1 wa.drew) := Lib.hid I1.out.drew
     have LR := Lib.hid φ1.le_refl
     obtain ⟨y0, y1⟩ := hcf2.out φ1 wa I1 LR
     obtain ⟨x0, x1⟩ := hcf2.out φ1 wa.drew Id LR
     go_region_held3 (fun w' => w'.cell? ⟨b8, 1, none⟩ = some (.slice ar nt cr) ∧ w'.cell? ⟨b, off + 1, none⟩ = some (.slice ar0 nt0 cr0)) (first | done | with_reducible exact ⟨x0, x1⟩ | with_reducible exact ⟨by assumption, by assumption⟩ | fail) (first
      | ((with_reducible refine (ROrder_any hD hM ID.out.fz (VB.out.mono (LC.out.trans LD.out)) VD.out HMC.out.1 HMC.out.2 hq).mono ?_); rintro e wE ⟨rfl, hbE⟩; have IE := Lib.hid (ID.out.callB hbE); obtain ⟨s0, s1⟩ := hcf2.out φD wE IE (Lib.hid (LA.out.trans (LB.out.trans (LC.out.trans LD.out)))); clear hbE)
      | ((with_reducible refine (Rsum_T hD hM HM2 hK hN SC (Lib.hid φC.le_refl) HG0 hS0 IC).mono ?_); rintro e wD ⟨vD, φD, rfl, ID, LD, VD⟩; obtain ⟨r0, r1⟩ := hcf2.out φD wD ID (Lib.hid (LA.out.trans (LB.out.trans (LC.out.trans LD.out)))))
      | ((with_reducible refine (Ropen_T hN HS0 HG0 IB).mono ?_); rintro e wC ⟨aC, cC, φC, rfl, IC, LC, SC⟩; obtain ⟨q0, q1⟩ := hcf2.out φC wC IC (Lib.hid (LA.out.trans (LB.out.trans LC.out))))
      | ((with_reducible refine (Rsum_T hD hM HM2 hK hN SA (Lib.hid φA.le_refl) HG hS1 IA).mono ?_); rintro e wB ⟨vB, φB, rfl, IB, LB, VB⟩; obtain ⟨p0, p1⟩ := hcf2.out φB wB IB (Lib.hid (LA.out.trans LB.out)))
      | ((with_reducible refine (Ropen_T hN HSK HG Id).mono ?_); rintro e wA ⟨aA, cA, φA, rfl, IA, LA, SA⟩; obtain ⟨o0, o1⟩ := hcf2.out φA wA IA LA)
      | fail)
     all_goals
      have IF := Lib.hid ((Inv.start HFZ.out).callB IE.out.bel)
      clear x0 x1 y0 y1 o0 o1 p0 p1 q0 q1 r0 r1 s0 s1 hcf2
      by_cases hq0 : q = 0
      ·have hgg : ((q : Int) != 0) = false := by simp [hq0]
       have hn2 := next_ok hok (by rw [hcw2.out, if_pos (cmpQ_zero.1 (by rw [hq.out]; exact hq0))] : cfl m k = 0)
       clear hq0 hst
       go_wp2
       go_roundw
       case rel => exact ⟨k + 1, by omega, by go_num, hn2, IF⟩
       case measure => (simp [intOf] <;> omega)
      ·have hgg : ((q : Int) != 0) = true := by simp [hq0]
       have HQ := Lib.hid (hst.out (by rw [hcw2.out, if_neg (fun e => hq0 (by rw [← hq.out]; exact cmpQ_zero.2 e))]; decide))
       clear hq0 hst
       go_wp2
       go_ret
       exact ⟨ret_int HQ.out.symm, IF.out.bel⟩
    ·have hkn : n = k := by omega
     subst hkn
     have HQ : Hid (f = 0) := Lib.hid (by rw [hcf.out]; exact scan_zero _ _ hok.out)
     go_wp2
     go_ret
     exact ⟨ret_int HQ.out.symm, hI.out.bel⟩
end Go.Proofs.YtmlpjffnmkndoaaGreatDoor

namespace Go.Proofs.YtmlpjffnmkndoaaGreatDoor
open Go.RowKit
set_option linter.unusedVariables false
set_option linter.unusedSimpArgs false
theorem psmF_w {mm : List Mgn} {s t : ByteArray} {cl : List Int} {x y z g : Int} (h : wgtF (s, t) = g) (hg : g ≠ 0) : psmF mm ((s, t), cl, x, y, z) = g := by
 unfold psmF
 dsimp only
 rw [h, if_pos hg]
theorem psmF_c {mm : List Mgn} {s t : ByteArray} {cl : List Int} {x y z g : Int} (h : wgtF (s, t) = 0) (hc : celM mm cl = g) (hg : g ≠ 0) : psmF mm ((s, t), cl, x, y, z) = g := by
 unfold psmF
 dsimp only
 rw [h, hc, if_neg (by simp), if_pos hg]
theorem psmF_n {mm : List Mgn} {s t : ByteArray} {cl : List Int} {x y z g : Int} (h : wgtF (s, t) = 0) (hc : celM mm cl = 0) (hn : numF x y z = g) : psmF mm ((s, t), cl, x, y, z) = g := by
 unfold psmF
 dsimp only
 rw [h, hc, if_neg (by simp), if_neg (by simp), hn]
set_option maxRecDepth 100000 in
set_option maxHeartbeats 4000000 in
theorem RCheckPeople_any {M : Nat} (hD : Hid (RdivOk M)) (hM : LenB M) (hM2 : p10 2000 ≤ M) {mm : List Mgn} {nm cm : Nat} {am : Option Addr} {n : Nat} {a : Option Addr} {cap : Nat} {l : List Psn} {w : World} {φ : Phi} (hφ : Fz φ w) (hp : PowP φ) (htp : TabP φ) (sm : SlV φ am cm mm) (hnm : Hid (mm.length = nm)) (hgm : Hid (∀ x ∈ mm, MgnG x)) (sl : SlV φ a cap l) (hn : Hid (l.length = n)) (hsz : Hid (∀ p ∈ l, PsnG p)) {f : Int} (hf : Hid (ppmF mm l = f)) :
  Calls Tryz.prog 23 #[.slice am nm cm, .slice a n cap] w (fun e w' => e = .returned (.int .i64 f) ∧ Below w.heap.size w w') := by
 have HM2 := Lib.hid hM2
 have HP := Lib.hid hp
 have HTP := Lib.hid htp
 have HSM := Lib.hid sm
 have HSL := Lib.hid sl
 have hnl : n ≤ 9223372036854775807 := by have := sl.capn; have := sl.capm; rw [hn.out] at *; unfold maxLen at *; omega
 have hnml : nm ≤ 9223372036854775807 := by have := sm.capn; have := sm.capm; rw [hnm.out] at *; unfold maxLen at *; omega
 have HI : Hid (Inv w.heap.size w φ φ w) := Lib.hid (Inv.start hφ)
 obtain ⟨fm, hfm⟩ : ∃ x, Hid (mgsF mm = x) := ⟨_, Lib.hid rfl⟩
 clear hM2 hφ hp htp sm sl
 by_cases hfm0 : fm = 0
 case neg =>
  have HQ : Hid (fm = f) := Lib.hid (by rw [← hf.out]; exact (ppmF_mgs hfm.out hfm0).symm)
  have h0i : (fm == 0) = false := by simp [hfm0]
  have h0j : (fm != 0) = true := by simp [hfm0]
  clear hfm0
  go_enter Tryz.func23, Tryz.ntmps23
  go_wp2_with (go_at_call 21; (with_reducible refine (RCheckMargins_any hD hM HM2.out HI.out.fz HP.out HTP.out HSM.out hnm hgm hfm).mono ?_); rintro e w1 ⟨rfl, hb1⟩; have I1 := Lib.hid (HI.out.callB hb1); clear hb1)
  go_ret
  exact ⟨ret_int HQ.out, I1.out.bel⟩
 case pos =>
 subst hfm0
 have hm0 := hfm
 by_cases h3 : 3000 < n
 ·have h3i : (3000 : Int) < (n : Int) := by omega
  have hq : Hid (f = 2) := Lib.hid (by rw [← hf.out]; exact ppmF_large hm0.out (by rw [hn.out]; exact h3))
  clear h3
  go_enter Tryz.func23, Tryz.ntmps23
  go_wp2_with (go_at_call 21; (with_reducible refine (RCheckMargins_any hD hM HM2.out HI.out.fz HP.out HTP.out HSM.out hnm hgm hfm).mono ?_); rintro e w1 ⟨rfl, hb1⟩; have I1 := Lib.hid (HI.out.callB hb1); clear hb1)
  go_ret
  exact ⟨ret_int hq.out.symm, I1.out.bel⟩
 have h3i : ¬ (3000 : Int) < (n : Int) := by omega
 have h3n : n ≤ 3000 := by omega
 clear h3
 go_enter Tryz.func23, Tryz.ntmps23
 go_wp2_with (go_at_call 21; (with_reducible refine (RCheckMargins_any hD hM HM2.out HI.out.fz HP.out HTP.out HSM.out hnm hgm hfm).mono ?_); rintro e w1 ⟨rfl, hb1⟩; have hS0 := Lib.hid (HI.out.callB hb1); clear hb1)
 go_loopw [22] (fun iv wr => ∃ (k : Nat), k ≤ n ∧ iv = .int .i64 (k : Int) ∧ Hid (∀ i, i < k → psmF mm (l.getD i psn0) = 0) ∧ Hid (Inv w.heap.size w φ φ wr)) (fun iv _ => n - (intOf iv).toNat)
 case atStart => exact ⟨0, Nat.zero_le _, rfl, none_yet _, hS0⟩
 case round =>
  clear hS0
  obtain ⟨k, hk, rfl, hok, hS⟩ := hrel
  by_cases hlt : k < n
  ·have hlti : (k : Int) < (n : Int) := by omega
   obtain ⟨b, off, rfl, fc⟩ := HSL.out.psnsD hn hlt
   obtain ⟨ar, cr, sc, f2⟩ := fc k hlt
   obtain ⟨d0, d1, d2, d3, d4, d5⟩ := f2 wr hS.out.fz
   have hm : l.getD k psn0 ∈ l := by rw [getD_elem0 _ _ _ (by rw [hn.out]; exact hlt)]; exact List.getElem_mem _
   obtain ⟨p, hp⟩ : ∃ p, l.getD k psn0 = p := ⟨_, rfl⟩
   rw [hp] at hm d0 d1 d2 d3 d4 d5 sc
   have hg := hsz.out p hm
   obtain ⟨q, hq⟩ : ∃ q, Hid (psmF mm p = q) := ⟨_, Lib.hid rfl⟩
   have hst := Lib.hid (fun (e : q ≠ 0) => ppmF_stop hm0.out hn.out h3n hlt hok.out (by rw [hp]; exact hq.out) e)
   have hnx := Lib.hid (fun (e : q = 0) => next_ok (f := fun i => psmF mm (l.getD i psn0)) hok (by show psmF mm (l.getD k psn0) = 0; rw [hp, hq.out, e]))
   rw [hf.out] at hst
   obtain ⟨⟨s, t⟩, cl, x, y, z⟩ := p
   have hs : s.size ≤ 9223372036854775807 := hg.1
   have ht : t.size ≤ 9223372036854775807 := hg.2
   dsimp only at d0 d1 d2 d3 d4 d5 sc
   obtain ⟨m, hm9⟩ : ∃ m, cl.length = m := ⟨_, rfl⟩
   have hmm : m ≤ 9223372036854775807 := by have h1 := sc.capn; have h2 := sc.capm; rw [hm9] at h1; unfold maxLen at h2; omega
   rw [hm9] at d2
   have hcn := Lib.hid hm9
   have HSC := Lib.hid sc
   have hS1 := Lib.hid (hS.out.alloc (.cells #[.string s, .string t, .slice ar m cr, .int .i64 x, .int .i64 y, .int .i64 z] 76))
   have hK1 := Lib.hid (Blk.new wr #[.string s, .string t, .slice ar m cr, .int .i64 x, .int .i64 y, .int .i64 z] 76)
   obtain ⟨gw, hgw⟩ : ∃ g, Hid (wgtF (s, t) = g) := ⟨_, Lib.hid rfl⟩
   obtain ⟨gn, hgn⟩ : ∃ g, Hid (numF x y z = g) := ⟨_, Lib.hid rfl⟩
   clear fc f2 hm hg hp hm9 sc hS
   go_upto_region 9 with fail
   generalize wr.alloc (.cells #[.string s, .string t, .slice ar m cr, .int .i64 x, .int .i64 y, .int .i64 z] 76) = wa at *
   generalize wr.heap.size = g6 at *
   have x0 : wa.cell? ⟨g6, 0, none⟩ = some (.string s) := hK1.out.cell 0
   have x1 : wa.cell? ⟨g6, 1, none⟩ = some (.string t) := hK1.out.cell 1
   clear d0 d1 d2 d3 d4 d5
   by_cases hw0 : gw = 0
   ·subst hw0
    by_cases h8 : m ≠ nm
    ·have h8i : ((m : Int) == (nm : Int)) = false := by simp; omega
     have h8j : ((m : Int) != (nm : Int)) = true := by simp; omega
     have hE : Hid ((3 : Int) = f) := Lib.hid (by
      have e : psmF mm ((s, t), cl, x, y, z) = 3 := psmF_c hgw.out (by unfold celM; rw [if_pos (by rw [hcn.out, hnm.out]; exact h8)]) (by decide)
      have e2 : (3 : Int) = q := by rw [← e]; exact hq.out
      rw [e2]; exact (hst.out (by omega)).symm)
     clear h8 hnx hst
     go_wp2_with (go_at_call 66; (with_reducible refine (RcheckWeight_any hD hM HM2.out hS1.out.fz HP.out hs ht hgw).mono ?_); rintro e w2 ⟨rfl, hb2⟩; have hS2 := Lib.hid (hS1.out.callB hb2); have K2 := Lib.hid (hK1.out.callB hb2); have y0 : w2.cell? ⟨g6, 0, none⟩ = some (.string s) := K2.out.cell 0; have y1 : w2.cell? ⟨g6, 1, none⟩ = some (.string t) := K2.out.cell 1; have y2 : w2.cell? ⟨g6, 2, none⟩ = some (.slice ar m cr) := K2.out.cell 2; have y3 : w2.cell? ⟨g6, 3, none⟩ = some (.int .i64 x) := K2.out.cell 3; have y4 : w2.cell? ⟨g6, 4, none⟩ = some (.int .i64 y) := K2.out.cell 4; have y5 : w2.cell? ⟨g6, 5, none⟩ = some (.int .i64 z) := K2.out.cell 5; clear hb2)
     go_ret
     exact ⟨ret_int hE.out, hS2.out.bel⟩
    ·have h8n : m = nm := by omega
     subst h8n
     clear h8
     go_wp2_with (go_at_call 66; (with_reducible refine (RcheckWeight_any hD hM HM2.out hS1.out.fz HP.out hs ht hgw).mono ?_); rintro e w2 ⟨rfl, hb2⟩; have hS2 := Lib.hid (hS1.out.callB hb2); have K2 := Lib.hid (hK1.out.callB hb2); have y0 : w2.cell? ⟨g6, 0, none⟩ = some (.string s) := K2.out.cell 0; have y1 : w2.cell? ⟨g6, 1, none⟩ = some (.string t) := K2.out.cell 1; have y2 : w2.cell? ⟨g6, 2, none⟩ = some (.slice ar m cr) := K2.out.cell 2; have y3 : w2.cell? ⟨g6, 3, none⟩ = some (.int .i64 x) := K2.out.cell 3; have y4 : w2.cell? ⟨g6, 4, none⟩ = some (.int .i64 y) := K2.out.cell 4; have y5 : w2.cell? ⟨g6, 5, none⟩ = some (.int .i64 z) := K2.out.cell 5; clear hb2)
     go_loopw [41] (fun i wi => ∃ j : Nat, j ≤ m ∧ i = .int .i64 (j : Int) ∧ Hid (∀ i, i < j → (if outB (cl.getD i 0) 0 (((mm.getD i mgn0).2.length : Int) - 1) then 1 else 0 : Int) = 0) ∧ wi = w2) (fun i _ => m - (intOf i).toNat)
     case atStart => exact ⟨0, Nat.zero_le _, rfl, none_yet _, rfl⟩
     case round =>
      rename World => wi
      obtain ⟨j, hj, rfl, hcj, rfl⟩ := hrel
      by_cases hjl : j < m
      ·have hjli : (j : Int) < (m : Int) := by omega
       obtain ⟨bu, ou, rfl, fu⟩ := HSC.out.intsD hcn hjl
       have c1 := (fu j hjl _ hS2.out.fz).2
       obtain ⟨bq, oq, rfl, fq⟩ := HSM.out.mgnsD hnm hjl
       obtain ⟨at9, ct9, sk9, f9⟩ := fq j hjl
       have c2 := (f9 _ hS2.out.fz).2
       have hcm9 := sk9.capm
       have hcn9 := sk9.capn
       obtain ⟨nt, hnt⟩ : ∃ x, (mm.getD j mgn0).2.length = x := ⟨_, rfl⟩
       rw [hnt] at c2 hcn9
       have hntl : (nt : Int) ≤ 9223372036854775807 := by unfold maxLen at hcm9; omega
       obtain ⟨o, ho⟩ : ∃ o, Hid (outB (cl.getD j 0) 0 ((nt : Int) - 1) = o) := ⟨_, Lib.hid rfl⟩
       have hcs := Lib.hid (fun (e : o = true) => celM_stop hcn.out hnm.out hjl hcj.out (by rw [hnt, ho.out]; exact e))
       have hcx := Lib.hid (fun (e : o = false) => next_ok hcj (by rw [hnt, ho.out, e]; rfl))
       clear fu fq f9 sk9 hcm9 hcn9 hnt
       generalize cl.getD j 0 = xk at *
       cases o
       ·have hn2 := hcx.out rfl
        clear hcx hcs
        go_wp2_with (go_at_call 67; (with_reducible refine (within9 _ _ _ _ ho).mono ?_); rintro e w' ⟨rfl, rfl⟩)
        go_roundw
        case rel => exact ⟨j + 1, by omega, by go_num, hn2, trivial⟩
        case measure => (simp [intOf] <;> omega)
       ·have hE : Hid ((1 : Int) = f) := Lib.hid (by
         have e : psmF mm ((s, t), cl, x, y, z) = 1 := psmF_c hgw.out (hcs.out rfl) (by decide)
         have e2 : (1 : Int) = q := by rw [← e]; exact hq.out
         rw [e2]; exact (hst.out (by omega)).symm)
        clear hcx hcs hnx hst
        go_wp2_with (go_at_call 67; (with_reducible refine (within9 _ _ _ _ ho).mono ?_); rintro e w' ⟨rfl, rfl⟩)
        go_ret
        exact ⟨ret_int hE.out, hS2.out.bel⟩
      ·have hjm : m = j := by omega
       subst hjm
       have hqn : Hid (gn = q) := Lib.hid (by
        rw [← hq.out]
        exact (psmF_n hgw.out (celM_zero hcn.out hnm.out hcj.out) hgn.out).symm)
       by_cases hn0 : gn = 0
       ·subst hn0
        have hn2 := hnx.out hqn.out.symm
        clear hnx hst
        go_wp2_with (go_at_call 68; (with_reducible refine (RcheckNumbers_any hS2.out.fz hgn).mono ?_); rintro e w3 ⟨rfl, hb3⟩; have hS3 := Lib.hid (hS2.out.callB hb3); clear hb3)
        go_roundw
        case rel => exact ⟨k + 1, by omega, by go_num, hn2, hS3⟩
        case measure => (simp [intOf] <;> omega)
       ·have hE : Hid (gn = f) := Lib.hid (by
         rw [hqn.out]; exact (hst.out (by rw [← hqn.out]; exact hn0)).symm)
        have h0i : (gn == 0) = false := by simp [hn0]
        have h0j : (gn != 0) = true := by simp [hn0]
        clear hnx hst hn0
        go_wp2_with (go_at_call 68; (with_reducible refine (RcheckNumbers_any hS2.out.fz hgn).mono ?_); rintro e w3 ⟨rfl, hb3⟩; have hS3 := Lib.hid (hS2.out.callB hb3); clear hb3)
        go_ret
        exact ⟨ret_int hE.out, hS3.out.bel⟩
   ·have hE : Hid (gw = f) := Lib.hid (by
     have e : psmF mm ((s, t), cl, x, y, z) = gw := psmF_w hgw.out hw0
     have e2 : gw = q := by rw [← e]; exact hq.out
     rw [e2]; exact (hst.out (by rw [← e2]; exact hw0)).symm)
    have h0i : (gw == 0) = false := by simp [hw0]
    have h0j : (gw != 0) = true := by simp [hw0]
    clear hnx hst hw0
    go_wp2_with (go_at_call 66; (with_reducible refine (RcheckWeight_any hD hM HM2.out hS1.out.fz HP.out hs ht hgw).mono ?_); rintro e w2 ⟨rfl, hb2⟩; have hS2 := Lib.hid (hS1.out.callB hb2); have K2 := Lib.hid (hK1.out.callB hb2); have y0 : w2.cell? ⟨g6, 0, none⟩ = some (.string s) := K2.out.cell 0; have y1 : w2.cell? ⟨g6, 1, none⟩ = some (.string t) := K2.out.cell 1; have y2 : w2.cell? ⟨g6, 2, none⟩ = some (.slice ar m cr) := K2.out.cell 2; have y3 : w2.cell? ⟨g6, 3, none⟩ = some (.int .i64 x) := K2.out.cell 3; have y4 : w2.cell? ⟨g6, 4, none⟩ = some (.int .i64 y) := K2.out.cell 4; have y5 : w2.cell? ⟨g6, 5, none⟩ = some (.int .i64 z) := K2.out.cell 5; clear hb2)
    go_ret
    exact ⟨ret_int hE.out, hS2.out.bel⟩
  ·obtain rfl : k = n := by omega
   have hE : Hid (f = 0) := Lib.hid (by rw [← hf.out]; exact ppmF_zero hm0.out hn.out h3n hok.out)
   go_wp2
   go_ret
   exact ⟨ret_int hE.out.symm, hS.out.bel⟩
end Go.Proofs.YtmlpjffnmkndoaaGreatDoor
