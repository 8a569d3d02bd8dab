/- The walks of the reference's passes, Fails, Passes. Conditions: the library's table of blanks reads as it was laid. -/
import Derived.Test.YtambgcijceecpaaDoorQ4
import Derived.Test.YtambgcijceecpaaDoorE18
namespace Go.Proofs.YtambgcijceecpaaDoor
open Go.RowKit
set_option linter.unusedVariables false
theorem Fz.drewN {φ : Phi} {w : World} (h : Fz φ w) (n : Nat) : Fz φ (w.drewN n) := h
theorem Contains_q (n : Nat) (a : Option Addr) (cap : Nat) (xs : List Int) (x : Int) (w : World) (φ : Phi) (hφ : Fz φ w) (s : SlV φ a cap xs) (hn : Hid (xs.length = n)) (hm : n ≤ 9223372036854775807) {b : Bool} (h : decide (x ∈ xs) = b) :
    Calls Tryd.prog 42 #[.slice a n cap, .int .i64 x] w fun e w' => e = .returned (.bool b) ∧ w' = w := (Contains_b n a cap xs x w φ hφ s hn hm h).mono fun e w' h => ⟨h.1, h.2.symm⟩
set_option maxHeartbeats 1000000 in
theorem Rpasses_any
  (n : Nat) (a : Option Addr) (cap : Nat) (fs : List Fld) (m : Nat) (ae : Option Addr) (ce : Nat) (es : List Edt) (w : World) (φ : Phi) (hφ : Fz φ w) (s : SlV φ a cap fs) (se : SlV φ ae ce es)
    (ok : PlOk fs es n m) (a2 : Option Addr) (c2 : Nat) (rec : List Int) (sr : SlV φ a2 c2 rec) (hrl : Hid (rec.length = n)) {b : Bool} (hb : Hid (passB fs es rec n m = b)) :
    Calls Tryd.prog 35 #[.agg #[.slice a n cap, .slice ae m ce], .slice a2 n c2] w (BoolB b w) := by
  have hn12 := ok.pos
  have hfl := Lib.hid ok.len
  have hok := Lib.hid ok
  have hS0 := Lib.hid (BxSt.new hφ #[.slice a n cap, .slice ae m ce] 25)
  go_enter Tryd.func35, Tryd.ntmps35
  go_wp2
  generalize w.alloc (.cells #[.slice a n cap, .slice ae m ce] 25) = W at *
  generalize hbx : w.heap.size = bx at *
  replace hbx := Lib.hid hbx
  go_loopw [10] (fun i wr => ∃ k : Nat, k ≤ n ∧ i = .int .i64 k ∧ Hid (∀ i, i < k → rec.getD i 0 ∈ (fs.getD i fld0).2.1) ∧ Hid (BxSt w φ bx #[.slice a n cap, .slice ae m ce] 25 wr)) (fun i _ => n - (intOf i).toNat)
  case atStart => exact ⟨0, Nat.zero_le _, rfl, Lib.hid (fun i hi => by omega), hS0⟩
  case round =>
    clear hS0
    obtain ⟨k, hk, rfl, hv, hS⟩ := hrel
    by_cases hlt : k < n
    · obtain ⟨b1, o1, rfl, f1⟩ := s.fldD hfl hlt
      obtain ⟨a3, c3, s3, f1⟩ := f1 k hlt
      obtain ⟨_, d1, d2, d3⟩ := f1 wr hS.out.fz
      obtain ⟨b4, o4, rfl, f4⟩ := sr.intsD hrl hlt
      have HF : Hid (¬ rec.getD k 0 ∈ (fs.getD k fld0).2.1 → b = false) := Lib.hid (fun h => by rw [← hb.out, passB, validB_false hlt h]; rfl)
      have HN : Hid (rec.getD k 0 ∈ (fs.getD k fld0).2.1 → ∀ i, i < k + 1 → rec.getD i 0 ∈ (fs.getD i fld0).2.1) := Lib.hid (fun h i hi => by
        by_cases e : i = k
        · subst e; exact h
        · exact hv.out i (by omega))
      clear f1
      generalize fs.getD k fld0 = X at *
      obtain ⟨nk, ck, wk⟩ := X
      dsimp only at d1 d2 d3 s3 HF HN
      obtain ⟨nc, hnc⟩ : ∃ j, Hid (ck.length = j) := ⟨_, Lib.hid rfl⟩
      rw [hnc.out] at d2
      have l1 := s3.capn
      have l2 := s3.capm
      rw [hnc.out] at l1
      unfold maxLen at l2
      have hSa := Lib.hid (hS.out.alloc (.cells #[.string nk, .slice a3 nc c3, .int .i64 wk] 87))
      have hNb := Lib.hid (Blk.new wr #[.string nk, .slice a3 nc c3, .int .i64 wk] 87)
      have y4 := (f4 k hlt _ hSa.out.fz).2
      clear f4
      generalize rec.getD k 0 = x at *
      go_wp2
      clear d1 d2 d3
      generalize wr.alloc (.cells #[.string nk, .slice a3 nc c3, .int .i64 wk] 87) = wy at *
      generalize wr.heap.size = bn at *
      have y1 : wy.cell? ⟨bn, 1, none⟩ = some (.slice a3 nc c3) := hNb.out.cell 1
      obtain ⟨o, ho⟩ : ∃ o, Hid (decide (x ∈ ck) = o) := ⟨_, Lib.hid rfl⟩
      cases o
      case false =>
        have HE := Lib.hid (HF.out (by simpa using ho.out))
        go_quiet ((go_at_call 42; exact Calls.quiet_of_same (Contains_q nc a3 c3 ck x _ φ (Fz.drewN hSa.out.fz _) s3 hnc (by omega) ho.out)))
        go_wp2
        go_ret
        exact ⟨ret_bool HE.out.symm, by rw [hbx.out]; have h := (hSa.out.callB (bdrewN (Below.refl _ _) nq)).bel; rw [hbx.out] at h; exact h⟩
      case true =>
        have HE := Lib.hid (HN.out (by simpa using ho.out))
        go_quiet ((go_at_call 42; exact Calls.quiet_of_same (Contains_q nc a3 c3 ck x _ φ (Fz.drewN hSa.out.fz _) s3 hnc (by omega) ho.out)))
        go_wp2
        go_roundw
        case rel => exact ⟨k + 1, by omega, by go_num, HE, Lib.hid (hSa.out.callB (bdrewN (Below.refl _ _) _))⟩
        case measure => simp [intOf]; omega
    · obtain rfl : k = n := by omega
      obtain ⟨l, hl⟩ : ∃ l, Hid (failL es rec k m = l) := ⟨_, Lib.hid rfl⟩
      have hbb : Hid (b = decide (l.length = 0)) := Lib.hid (by rw [← hb.out, passB, validB_true hv.out, hl.out]; rfl)
      have e0 : wr.cell? ⟨bx, 0, none⟩ = some (.slice a k cap) := hS.out.k.cell 0
      have e1 : wr.cell? ⟨bx, 1, none⟩ = some (.slice ae m ce) := hS.out.k.cell 1
      go_wp2_with fail
      refine (Rfailed_any k a cap fs m ae ce es _ φ hS.out.fz s se hok.out a2 c2 rec sr hrl).mono ?_
      rintro e w5 ⟨a5, c5, rfl, hi5, ho5⟩
      rw [hl.out]
      have hB := Lib.hid (hS.out.callB hi5.bel).bel
      clear hi5 ho5
      rw [hbx.out] at hB
      go_wp2
      go_ret
      exact ⟨ret_bool (by rw [hbb.out, Bool.eq_iff_iff]; simp), by rw [hbx.out]; exact hB.out⟩
def failsR (fs : List Fld) (es : List Edt) (rec : List Int) (F : Int) : List Int := if F = 0 then failL es rec fs.length es.length else []
set_option maxHeartbeats 1000000 in
theorem RFails_any
  (n : Nat) (a : Option Addr) (cap : Nat) (fs : List Fld) (m : Nat) (ae : Option Addr) (ce : Nat) (es : List Edt) (w : World) (φ : Phi) (hφ : Fz φ w) (ht : TabP φ) (s : SlV φ a cap fs) (hn : Hid (fs.length = n)) (hm : n ≤ 9223372036854775807) (hg : Hid (∀ x ∈ fs, FldG x)) (se : SlV φ ae ce es) (hne : Hid (es.length = m)) (hme : m ≤ 9223372036854775807) (hge : Hid (∀ x ∈ es, EdtG x))
      (nr : Nat) (a2 : Option Addr) (c2 : Nat) (rec : List Int) (sr : SlV φ a2 c2 rec) (hrl : Hid (rec.length = nr)) (hmr : nr ≤ 9223372036854775807)
    {F : Int} (hF : Hid (withF fs es rec = F)) {l : List Int} (hl : Hid (failsR fs es rec F = l)) :
    Calls Tryd.prog 10 #[.agg #[.slice a n cap, .slice ae m ce], .slice a2 nr c2] w (SlFPost l F φ w) := by
  have hS0 := Lib.hid (BxSt.new hφ #[.slice a n cap, .slice ae m ce] 25)
  have hi0 := Lib.hid ((Inv.start hφ).alloc (.cells #[.slice a n cap, .slice ae m ce] 25))
  obtain ⟨P, hP⟩ : ∃ P, Hid (planF fs es = P) := ⟨_, Lib.hid rfl⟩
  have hTT := Lib.hid ht
  clear ht
  go_enter Tryd.func10, Tryd.ntmps10
  go_wp2_with fail
  refine (RCheckPlan_any n a cap fs m ae ce es _ φ hS0.out.fz hTT.out s hn hm hg se hne hme hge hP).mono ?_
  rintro e w1 ⟨rfl, hb1⟩
  have hS1 := Lib.hid (hS0.out.callB hb1)
  have hi1 := Lib.hid (hi0.out.callB hb1)
  clear hb1 hS0 hi0
  have p0 : w1.cell? ⟨w.heap.size, 0, none⟩ = some (.slice a n cap) := hS1.out.k.cell 0
  have p1 : w1.cell? ⟨w.heap.size, 1, none⟩ = some (.slice ae m ce) := hS1.out.k.cell 1
  by_cases hz : P = 0
  case neg =>
    have hzz : (P != 0) = true := by simp [hz]
    have hFP : Hid (F = P) := Lib.hid (by rw [← hF.out, withF, hP.out, if_pos hz])
    have hl0 : Hid (l = []) := Lib.hid (by rw [← hl.out, failsR, hFP.out, if_neg hz])
    clear hz
    go_wp2
    go_ret2
    obtain rfl := hFP.out
    obtain rfl := hl0.out
    exact ⟨φ, none, 0, rfl, hi1.out, SlV.empty _⟩
  subst hz
  have hR : Hid (recF n rec = F) := Lib.hid (by rw [← hF.out, withF, hP.out, if_neg (by simp), hn.out])
  go_wp2_with fail
  refine (RcheckRecord_any n a cap fs m ae ce es _ φ hS1.out.fz s se hn nr a2 c2 rec sr hrl hmr hR).mono ?_
  rintro e w2 ⟨rfl, hb2⟩
  have hS2 := Lib.hid (hS1.out.callB hb2)
  have hi2 := Lib.hid (hi1.out.callB hb2)
  clear hb2 hS1 hi1 p0 p1
  have p0 : w2.cell? ⟨w.heap.size, 0, none⟩ = some (.slice a n cap) := hS2.out.k.cell 0
  have p1 : w2.cell? ⟨w.heap.size, 1, none⟩ = some (.slice ae m ce) := hS2.out.k.cell 1
  by_cases hz : F = 0
  case neg =>
    have hzz : (F != 0) = true := by simp [hz]
    have hl0 : Hid (l = []) := Lib.hid (by rw [← hl.out, failsR, if_neg hz])
    clear hz
    go_wp2
    go_ret2
    obtain rfl := hl0.out
    exact ⟨φ, none, 0, rfl, hi2.out, SlV.empty _⟩
  subst hz
  have OK := planF_zero hP.out
  rw [hn.out, hne.out] at OK
  have OKH := Lib.hid OK
  have hrn : Hid (rec.length = n) := Lib.hid (recF_len hR.out)
  obtain rfl : nr = n := by rw [← hrl.out, hrn.out]
  have hl2 : Hid (failL es rec nr m = l) := Lib.hid (by rw [← hl.out, failsR, if_pos rfl, hn.out, hne.out])
  clear OK
  go_wp2_with fail
  refine (Rfailed_any nr a cap fs m ae ce es _ φ hS2.out.fz s se OKH.out a2 c2 rec sr hrl).mono ?_
  rintro e w3 ⟨a5, c5, rfl, hi5, ho5⟩
  rw [hl2.out] at ho5 ⊢
  obtain ⟨φ3, l3, i3, s3, _⟩ := ho5.release hi5
  have HI := Lib.hid (hi2.out.call i3)
  clear hi5 ho5 l3 i3
  go_wp2
  go_ret2
  exact ⟨φ3, a5, c5, rfl, HI.out, s3⟩
set_option maxHeartbeats 1000000 in
theorem RPasses_any
  (n : Nat) (a : Option Addr) (cap : Nat) (fs : List Fld) (m : Nat) (ae : Option Addr) (ce : Nat) (es : List Edt) (w : World) (φ : Phi) (hφ : Fz φ w) (ht : TabP φ) (s : SlV φ a cap fs) (hn : Hid (fs.length = n)) (hm : n ≤ 9223372036854775807) (hg : Hid (∀ x ∈ fs, FldG x)) (se : SlV φ ae ce es) (hne : Hid (es.length = m)) (hme : m ≤ 9223372036854775807) (hge : Hid (∀ x ∈ es, EdtG x))
      (nr : Nat) (a2 : Option Addr) (c2 : Nat) (rec : List Int) (sr : SlV φ a2 c2 rec) (hrl : Hid (rec.length = nr)) (hmr : nr ≤ 9223372036854775807)
    {F : Int} (hF : Hid (withF fs es rec = F)) {b : Bool} (hb : Hid (passR fs es rec F = b)) :
    Calls Tryd.prog 13 #[.agg #[.slice a n cap, .slice ae m ce], .slice a2 nr c2] w (PassPost b F w) := by
  have hS0 := Lib.hid (BxSt.new hφ #[.slice a n cap, .slice ae m ce] 25)
  obtain ⟨l, hl⟩ : ∃ l, Hid (failsR fs es rec F = l) := ⟨_, Lib.hid rfl⟩
  have hTT := Lib.hid ht
  clear ht
  go_enter Tryd.func13, Tryd.ntmps13
  go_wp2_with fail
  refine (RFails_any n a cap fs m ae ce es _ φ hS0.out.fz hTT.out s hn hm hg se hne hme hge nr a2 c2 rec sr hrl hmr hF hl).mono ?_
  rintro e w1 ⟨φ1, a5, c5, rfl, hi1, s5⟩
  have hS1 := Lib.hid (hS0.out.callB hi1.bel)
  clear hi1 hS0 s5
  have p0 : w1.cell? ⟨w.heap.size, 0, none⟩ = some (.slice a n cap) := hS1.out.k.cell 0
  have p1 : w1.cell? ⟨w.heap.size, 1, none⟩ = some (.slice ae m ce) := hS1.out.k.cell 1
  by_cases hz : F = 0
  case neg =>
    have hzz : (F != 0) = true := by simp [hz]
    have hb' : Hid (false = b) := Lib.hid (by rw [← hb.out, passR, if_neg hz])
    clear hz
    go_wp2
    go_ret2
    obtain rfl := hb'.out
    exact ⟨rfl, hS1.out.bel⟩
  subst hz
  obtain ⟨hp, hlr⟩ := withF_zero hF.out
  have OKH := Lib.hid (planF_zero hp)
  have hb' : Hid (passB fs es rec fs.length es.length = b) := Lib.hid (by rw [← hb.out, passR, if_pos rfl])
  rw [hn.out, hne.out] at OKH hb'
  obtain rfl : nr = n := by rw [← hrl.out, hlr, hn.out]
  clear hp hlr
  go_wp2_with fail
  refine (Rpasses_any nr a cap fs m ae ce es _ φ hS1.out.fz s se OKH.out a2 c2 rec sr hrl hb').mono ?_
  rintro e w2 ⟨rfl, hb2⟩
  have hS2 := Lib.hid (hS1.out.callB hb2)
  clear hb2 hS1 p0 p1
  go_wp2
  go_ret2
  exact ⟨rfl, hS2.out.bel⟩
end Go.Proofs.YtambgcijceecpaaDoor
