/- The walks of the reference's checkRecord, fails, failed, passes, Fails, Passes. Conditions: the library's table of blanks reads as it was laid. -/
import Derived.Test.YtambgcijceecpaaDoorQ3
namespace Go.Proofs.YtambgcijceecpaaDoor
open Go.RowKit
set_option linter.unusedVariables false
theorem RcheckRecord_any
  (n : Nat) (a : Option Addr) (cap : Nat) (fs : List Fld) (m : Nat) (ae : Option Addr) (ce : Nat) (es : List Edt) (w : World) (φ : Phi) (hφ : Fz φ w) (s : SlV φ a cap fs) (se : SlV φ ae ce es)
    (hn : Hid (fs.length = n)) (nr : Nat) (a2 : Option Addr) (c2 : Nat) (rec : List Int) (sr : SlV φ a2 c2 rec) (hrl : Hid (rec.length = nr)) (hm : nr ≤ 9223372036854775807) {q : Int} (hq : Hid (recF n rec = q)) :
    Calls Tryd.prog 32 #[.agg #[.slice a n cap, .slice ae m ce], .slice a2 nr c2] w (IntB q w) := by
  have hS0 := Lib.hid (BxSt.new hφ #[.slice a n cap, .slice ae m ce] 25)
  have hrf : Hid ((if nr ≠ n then 3 else scan (recBad rec) nr) = q) := Lib.hid (by rw [← hq.out, recF, hrl.out])
  by_cases hne : nr = n
  case neg =>
    have hb1 : ((nr : Int) != n) = true := by simp; omega
    have HNE := Lib.hid hne
    clear hne
    go_enter Tryd.func32, Tryd.ntmps32
    go_wp2
    go_ret
    exact ⟨ret_int (by rw [← hrf.out, if_pos HNE.out]), hS0.out.bel⟩
  subst hne
  have hb1 : ((nr : Int) != nr) = false := by simp
  have hrf2 : Hid (scan (recBad rec) nr = q) := Lib.hid (by have h := hrf.out; rwa [if_neg (by simp)] at h)
  go_enter Tryd.func32, Tryd.ntmps32
  go_wp2
  clear hb1
  have hF := Lib.hid hS0.out.fz
  have hB := Lib.hid hS0.out.bel
  generalize w.alloc (.cells #[.slice a nr cap, .slice ae m ce] 25) = W at *
  clear hS0
  go_loop [15] (fun i => ∃ k : Nat, k ≤ nr ∧ i = .int .i64 k ∧ Hid (∀ i, i < k → recBad rec i = 0)) (fun i => nr - (intOf i).toNat)
  case atStart => exact ⟨0, Nat.zero_le _, rfl, none_yet _⟩
  case round =>
    obtain ⟨k, hk, rfl, hok⟩ := hrel
    by_cases hlt : k < nr
    · obtain ⟨b1, o1, rfl, f1⟩ := sr.intsD hrl hlt
      have d1 := (f1 k hlt W hF.out).2
      have hbad : Hid (recBad rec k = _) := Lib.hid (recBad.eq_1 rec k)
      clear f1
      generalize rec.getD k 0 = x at *
      obtain ⟨o, ho⟩ : ∃ o, Hid (outB x 0 999 = o) := ⟨_, Lib.hid rfl⟩
      cases o
      case true =>
        go_wp2_with (go_at_call 38; refine (within_b _ _ _ _ ho.out).mono ?_; rintro e w' ⟨rfl, rfl⟩)
        go_ret
        exact ⟨ret_int (by rw [← hrf2.out, scan_stop hok.out hlt (by rw [hbad.out, if_pos ho.out]; decide), hbad.out, if_pos ho.out]), hB.out⟩
      case false =>
        go_wp2_with (go_at_call 38; refine (within_b _ _ _ _ ho.out).mono ?_; rintro e w' ⟨rfl, rfl⟩)
        go_round
        case rel => exact ⟨k + 1, by omega, by go_num, next_ok hok (by rw [hbad.out, if_neg (by rw [ho.out]; simp)])⟩
        case measure => simp [intOf]; omega
    · obtain rfl : k = nr := by omega
      go_wp2
      go_ret
      exact ⟨ret_int (by rw [← hrf2.out, scan_zero _ _ hok.out]), hB.out⟩
set_option maxHeartbeats 1000000 in
theorem Rfails_any (nm : ByteArray) (n : Nat) (a : Option Addr) (cap : Nat) (ss : List (List Int)) (w : World) (φ : Phi) (hφ : Fz φ w) (s : SlV φ a cap ss) (hn : Hid (ss.length = n)) (hm : n ≤ 9223372036854775807) (a2 : Option Addr) (c2 : Nat) (rec : List Int) (sr : SlV φ a2 c2 rec) (hrl : Hid (rec.length = n)) {b : Bool} (hb : Hid (hitB ss rec n = b)) :
    Calls Tryd.prog 66 #[.agg #[.string nm, .slice a n cap], .slice a2 n c2] w (BoolB b w) := by
  have hS0 := Lib.hid (BxSt.new hφ #[.string nm, .slice a n cap] 95)
  go_enter Tryd.func66, Tryd.ntmps66
  go_wp2
  have hF := Lib.hid hS0.out.fz
  have hB := Lib.hid hS0.out.bel
  clear hS0
  generalize w.alloc (.cells #[.string nm, .slice a n cap] 95) = W at *
  go_loop [10] (fun i => ∃ k : Nat, k ≤ n ∧ i = .int .i64 k ∧ Hid (∀ i, i < k → rec.getD i 0 ∈ ss.getD i [])) (fun i => n - (intOf i).toNat)
  case atStart => exact ⟨0, Nat.zero_le _, rfl, Lib.hid (fun i hi => by omega)⟩
  case round =>
    obtain ⟨k, hk, rfl, hok⟩ := hrel
    by_cases hlt : k < n
    · obtain ⟨b1, o1, rfl, f1⟩ := sr.intsD hrl hlt
      have d1 := (f1 k hlt W hF.out).2
      obtain ⟨b2, o2, rfl, f2⟩ := s.lists hn hlt
      obtain ⟨a3, c3, s3, f2⟩ := f2 k hlt
      have d2 := (f2 W hF.out).2
      have HF : Hid (¬ rec.getD k 0 ∈ ss.getD k [] → b = false) := Lib.hid (fun h => hb.out.symm.trans (hitB_false hlt h))
      have HN : Hid (rec.getD k 0 ∈ ss.getD k [] → ∀ i, i < k + 1 → rec.getD i 0 ∈ ss.getD i []) := Lib.hid (fun h i hi => by
        by_cases e : i = k
        · subst e; exact h
        · exact hok.out i (by omega))
      clear f1 f2
      generalize rec.getD k 0 = x at *
      generalize ss.getD k [] = st at *
      obtain ⟨n2, hn2⟩ : ∃ n2, Hid (st.length = n2) := ⟨_, Lib.hid rfl⟩
      rw [hn2.out] at d2
      have e3 := s3.capn
      have e4 := s3.capm
      rw [hn2.out] at e3
      unfold maxLen at e4
      obtain ⟨o, ho⟩ : ∃ o, Hid (decide (x ∈ st) = o) := ⟨_, Lib.hid rfl⟩
      cases o
      · go_wp2_with (go_at_call 42; refine (Contains_b n2 a3 c3 st x W φ hF.out s3 hn2 (by omega) ho.out).mono ?_; rintro e w' ⟨rfl, rfl⟩)
        go_ret
        exact ⟨ret_bool (HF.out (by simpa using ho.out)).symm, hB.out⟩
      · go_wp2_with (go_at_call 42; refine (Contains_b n2 a3 c3 st x W φ hF.out s3 hn2 (by omega) ho.out).mono ?_; rintro e w' ⟨rfl, rfl⟩)
        go_round
        case rel => exact ⟨k + 1, by omega, by go_num, Lib.hid (HN.out (by simpa using ho.out))⟩
        case measure => simp [intOf]; omega
    · obtain rfl : k = n := by omega
      go_wp2
      go_ret
      exact ⟨ret_bool ((hitB_true hok.out).symm.trans hb.out), hB.out⟩
structure RfSt2 (w0 : World) (φ : Phi) (bx : Nat) (cs : Array Value) (ao : Option Addr) (co : Nat) (xs : List Int) (w : World) : Prop where
  inv : Inv w0.heap.size w0 φ φ w
  own : Own w0.heap.size φ w 3 ao co xs
  k : Blk w bx cs 25
  far : ∀ x, ao = some x → x.block ≠ bx
theorem RfSt2.callB {w0 w w' : World} {φ : Phi} {bx : Nat} {cs : Array Value} {ao : Option Addr} {co : Nat} {xs : List Int} (h : RfSt2 w0 φ bx cs ao co xs w) (hb : Below w.heap.size w w') : RfSt2 w0 φ bx cs ao co xs w' := ⟨h.inv.callB hb, h.own.callB hb, h.k.callB hb, h.far⟩
theorem RfSt2.app {w0 w w' : World} {φ : Phi} {bx : Nat} {cs : Array Value} {ao a' : Option Addr} {co c' : Nat} {xs xs' : List Int} (h : RfSt2 w0 φ bx cs ao co xs w) {o : Obj} (hi : Inv w0.heap.size w0 φ φ w') (ho : Own w0.heap.size φ w' 3 a' c' xs') (hg : (w.alloc o).grownBy w' (ao.map (·.block))) (hf : ∀ x, a' = some x → ao.map (·.block) = some x.block ∨ (w.alloc o).heap.size ≤ x.block) : RfSt2 w0 φ bx cs a' c' xs' w' := by
  have k := h.callB ((Below.refl _ _).alloc (Nat.le_refl _) o)
  refine ⟨hi, ho, (hg.block bx k.k.lt (fun e => ?_)).trans k.k, fun x hx => ?_⟩
  · cases ao with
    | none => cases e
    | some z => exact h.far z rfl (by simpa using e.symm)
  · rcases hf x hx with hh | hh
    · cases ao with
      | none => cases hh
      | some z => have := h.far z rfl; simp at hh; omega
    · have := k.k.lt; omega
set_option maxHeartbeats 1000000 in
theorem Rfailed_any
  (n : Nat) (a : Option Addr) (cap : Nat) (fs : List Fld) (m : Nat) (ae : Option Addr) (ce : Nat) (es : List Edt) (w : World) (φ : Phi) (hφ : Fz φ w) (s : SlV φ a cap fs) (se : SlV φ ae ce es)
    (ok : PlOk fs es n m) (a2 : Option Addr) (c2 : Nat) (rec : List Int) (sr : SlV φ a2 c2 rec) (hrl : Hid (rec.length = n)) :
    Calls Tryd.prog 33 #[.agg #[.slice a n cap, .slice ae m ce], .slice a2 n c2] w (OwnPost (failL es rec n m) φ w) := by
  have hm60 := ok.cnt
  have hn12 := ok.pos
  have hne := Lib.hid ok.elen
  have hed := Lib.hid ok.edt
  have hS0 : Hid (RfSt2 w φ w.heap.size #[.slice a n cap, .slice ae m ce] none 0 (failL es rec n 0) (w.alloc (.cells #[.slice a n cap, .slice ae m ce] 25))) := Lib.hid ⟨(Inv.start hφ).alloc _, Own.nil _ _ _ _, Blk.new w _ _, fun _ h => by cases h⟩
  go_enter Tryd.func33, Tryd.ntmps33
  go_wp2
  generalize w.alloc (.cells #[.slice a n cap, .slice ae m ce] 25) = W at *
  generalize hbx : w.heap.size = bx at *
  replace hbx := Lib.hid hbx
  go_loopw [5, 11] (fun sl i wr => ∃ (k : Nat) (ao : Option Addr) (co : Nat), k ≤ m ∧ sl = .slice ao (failL es rec n k).length co ∧ i = .int .i64 k ∧ Hid (RfSt2 w φ bx #[.slice a n cap, .slice ae m ce] ao co (failL es rec n k) wr)) (fun _ i _ => m - (intOf i).toNat)
  case atStart => exact ⟨0, none, 0, Nat.zero_le _, rfl, rfl, hS0⟩
  case round =>
    clear hS0
    obtain ⟨k, ao, co, hk, rfl, rfl, hS⟩ := hrel
    by_cases hlt : k < m
    · obtain ⟨b1, o1, rfl, f1⟩ := se.edtD hne hlt
      obtain ⟨a3, c3, s3, f1⟩ := f1 k hlt
      obtain ⟨_, d1, d2⟩ := f1 wr hS.out.inv.fz
      have hsn := (hed.out k hlt).1
      have hl := Lib.hid (failL_len es rec n k)
      obtain ⟨o, ho⟩ : ∃ o, Hid (hitB (es.getD k edt0).2 rec n = o) := ⟨_, Lib.hid rfl⟩
      have HT := Lib.hid (fun h : hitB (es.getD k edt0).2 rec n = true => failL_t h)
      have HFF := Lib.hid (fun h : hitB (es.getD k edt0).2 rec n = false => failL_f h)
      clear f1
      generalize es.getD k edt0 = X at *
      obtain ⟨nk, ck⟩ := X
      dsimp only at d1 d2 hsn ho s3 HT HFF
      rw [hsn] at d2
      have hnc : Hid (ck.length = n) := Lib.hid hsn
      have hSa := Lib.hid (hS.out.callB ((Below.refl _ _).alloc (Nat.le_refl _) (.cells #[.string nk, .slice a3 n c3] 95)))
      have hNb := Lib.hid (Blk.new wr #[.string nk, .slice a3 n c3] 95)
      clear hsn
      go_wp2_with fail
      refine (Rfails_any nk n a3 c3 ck _ φ hSa.out.inv.fz s3 hnc (by omega) a2 c2 rec sr hrl ho).mono ?_
      rintro e w5 ⟨rfl, hb5⟩
      have hS5 := Lib.hid (hSa.out.callB hb5)
      clear hSa hNb d1 d2 hb5
      cases o
      case true =>
        have H2 := Lib.hid (HT.out ho.out)
        have hin := hS5.out.inv
        have hon := hS5.out.own
        go_wp2_with (at_builtin; refine wpList_app1F (α := Int) rfl _ _ 26 rfl slI hin ao co _ hon _ _ (k : Int) rfl rfl 1 rfl (by have := hl.out; omega) ?_; intro a4 c4 w4 hi4 ho4 hg4 hf4)
        go_roundw
        case rel => exact ⟨k + 1, a4, c4, by omega, by rw [H2.out]; simp, by go_num, by rw [H2.out]; exact Lib.hid (hS5.out.app hi4 ho4 hg4 hf4)⟩
        case measure => simp [intOf]; omega
      case false =>
        have H2 := Lib.hid (HFF.out ho.out)
        go_wp2
        go_roundw
        case rel => exact ⟨k + 1, ao, co, by omega, by rw [H2.out], by go_num, by rw [H2.out]; exact hS5⟩
        case measure => simp [intOf]; omega
    · obtain rfl : k = m := by omega
      go_wp2
      go_ret
      exact ⟨ao, co, rfl, hS.out.inv, hS.out.own⟩
end Go.Proofs.YtambgcijceecpaaDoor
