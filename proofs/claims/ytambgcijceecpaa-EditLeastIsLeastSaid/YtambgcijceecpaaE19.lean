/- Plans as data; the walk of the law EditLeastIsLeast. Conditions: none beyond what the claim form gives. -/
import Derived.Test.YtambgcijceecpaaE18
namespace Go.Proofs.Ytambgcijceecpaa
open Go.RowKit
set_option linter.unusedVariables false
abbrev Plan := List Fld × List Edt
def PlanG (x : Plan) : Prop := (x.1.length * Try.prog.bytesOf 35 ≤ reachBytes ∧ ∀ y ∈ x.1, StrG y.1 ∧ (y.2.1.length * 8 ≤ reachBytes ∧ ∀ z ∈ y.2.1, IsI64 z) ∧ IsI64 y.2.2) ∧ (x.2.length * Try.prog.bytesOf 61 ≤ reachBytes ∧ ∀ y ∈ x.2, StrG y.1 ∧ (y.2.length * Try.prog.bytesOf 26 ≤ reachBytes ∧ ∀ z ∈ y.2, z.length * 8 ≤ reachBytes ∧ ∀ u ∈ z, IsI64 u))
theorem rPlan (H : Type) (enc : TypeId × Value → H) (W : World) : Reads enc Try.prog W 25 Plan PlanG :=
  Reads.struct2 (s1 := 1) (s2 := 1) Try.underlying25 (by kernel_rfl) (by kernel_rfl) (by kernel_rfl) (by kernel_rfl) (by kernel_rfl)
    (Reads.slice Try.underlying22 (by kernel_rfl) (by decide) (Reads.struct3 (s1 := 1) (s2 := 1) (s3 := 1) Try.underlying35 (by kernel_rfl) (by kernel_rfl) (by kernel_rfl) (by kernel_rfl) (by kernel_rfl) (by kernel_rfl) (by kernel_rfl) (rStr H enc W) (rInts H enc W) (rInt H enc W)))
    (Reads.slice Try.underlying23 (by kernel_rfl) (by decide) (Reads.struct2 (s1 := 1) (s2 := 1) Try.underlying61 (by kernel_rfl) (by kernel_rfl) (by kernel_rfl) (by kernel_rfl) (by kernel_rfl) (rStr H enc W) (Reads.slice Try.underlying59 (by kernel_rfl) (by decide) (rInts H enc W))))
/-- A plan of the claim form, taken apart. -/
structure PlanA (φ : Phi) (cs : Array Value) (fs : List Fld) (es : List Edt) (a : Option Addr) (cap : Nat) (ae : Option Addr) (ce : Nat) : Prop where
  e : cs = #[.slice a fs.length cap, .slice ae es.length ce]
  s : SlV φ a cap fs
  se : SlV φ ae ce es
  hm : fs.length ≤ 9223372036854775807
  hme : es.length ≤ 9223372036854775807
  hg : ∀ x ∈ fs, FldG x
  hge : ∀ x ∈ es, EdtG x
theorem plan_open {φ : Phi} {cs : Array Value} {x : Plan} (h : Rep.rep φ x cs.toList) (g : PlanG x) : ∃ a cap ae ce, PlanA φ cs x.1 x.2 a cap ae ce := by
  obtain ⟨c, d, hcd, ⟨a, cap, rfl, s⟩, ⟨ae, ce, rfl, se⟩⟩ := h
  refine ⟨a, cap, ae, ce, ?_, s, se, ?_, ?_, fun y hy => (g.1.2 y hy).1, fun y hy => (g.2.2 y hy).1⟩
  · apply Array.toList_inj.1; rw [hcd]; rfl
  · have := s.capn; have := s.capm; unfold maxLen at this; omega
  · have := se.capn; have := se.capm; unfold maxLen at this; omega
theorem ints_len {xs : List Int} (h : xs.length * 8 ≤ reachBytes) : xs.length ≤ 17592186044416 := by unfold reachBytes at h; omega
theorem wSum_take {fs : List Fld} {l : List Int} {k : Nat} (hk : k < l.length) : wSum fs (l.take (k + 1)) = wSum fs (l.take k) + wOf fs (l.getD k 0) := by
  rw [take_snoc l k hk, wSum_snoc, getD_elem0 _ _ _ hk]
set_option maxHeartbeats 1000000 in
theorem weight_any (n : Nat) (a : Option Addr) (cap : Nat) (fs : List Fld) (w : World) (φ : Phi) (hφ : Fz φ w) (s : SlV φ a cap fs) (hn : Hid (fs.length = n)) (hw : Hid (∀ k : Int, 0 ≤ k → k < n → 1 ≤ wOf fs k ∧ wOf fs k ≤ 1000)) (hmn : n ≤ 9223372036854775807)
    (bp : Nat) (hb : w.cell? ⟨bp, 0, none⟩ = some (.slice a n cap)) (nl : Nat) (al : Option Addr) (cl : Nat) (l : List Int) (sl : SlV φ al cl l) (hl : Hid (l.length = nl)) (hml : nl ≤ 17592186044416) (hr : Hid (∀ k ∈ l, 0 ≤ k ∧ k < n)) {q : Int} (hq : Hid (wSum fs l = q)) :
    Calls Try.prog 7 #[.slice al nl cl, .pointer (some ⟨bp, 0, none⟩)] w (fun e w' => e = .returned (.int .i64 q) ∧ w = w') := by
  go_enter Try.func7, Try.ntmps7
  go_wp2
  go_loop [4, 9] (fun ww i => ∃ k : Nat, k ≤ nl ∧ ww = .int .i64 (wSum fs (l.take k)) ∧ i = .int .i64 k) (fun _ i => nl - (intOf i).toNat)
  case atStart => exact ⟨0, Nat.zero_le _, rfl, rfl⟩
  case round =>
    obtain ⟨k, hk, rfl, rfl⟩ := hrel
    by_cases hlt : k < nl
    · obtain ⟨b1, o1, rfl, f1⟩ := sl.intsD hl hlt
      have d1 := (f1 k hlt w hφ).2
      have hx := hr.out (l.getD k 0) (by rw [getD_elem0 _ _ _ (by rw [hl.out]; exact hlt)]; exact List.getElem_mem _)
      have hsn := Lib.hid (wSum_take (fs := fs) (l := l) (k := k) (by rw [hl.out]; exact hlt))
      have hbd := wSum_bd (fs := fs) (l := l.take k) (fun j hj => by have h := hr.out j (List.mem_of_mem_take hj); have := hw.out j h.1 h.2; omega)
      have hlk : (l.take k).length ≤ k := List.length_take_le _ _
      clear f1
      generalize l.getD k 0 = x at *
      generalize (l.take k).length = lk at *
      generalize wSum fs (l.take k) = sw at *
      have hw1 := hw.out x hx.1 hx.2
      obtain ⟨j, rfl⟩ : ∃ j : Nat, x = j := ⟨x.toNat, by omega⟩
      have hj : j < n := by omega
      obtain ⟨b2, o2, ha, f2⟩ := s.fldD hn hj
      obtain ⟨a4, c4, s4, f4⟩ := f2 j hj
      have d2 := (f4 w hφ).2.2.2
      have hwk : Hid (wOf fs (j : Int) = (fs.getD j fld0).2.2) := Lib.hid rfl
      rw [hwk.out] at hw1
      subst ha
      clear f2 f4
      generalize (fs.getD j fld0).2.2 = wt at *
      go_wp2
      go_round
      case rel => exact ⟨k + 1, by omega, by rw [hsn.out, hwk.out], by go_num⟩
      case measure => simp [intOf]; omega
    · obtain rfl : k = nl := by omega
      go_wp2
      go_ret
      exact ⟨ret_int (by rw [← hl.out, List.take_length]; exact hq.out), rfl⟩
theorem leastR_zero {fs : List Fld} {es : List Edt} {rec l : List Int} {F : Int} (h : leastR fs es rec F = (l, 0)) : F = 0 ∧ ∃ lw, (leastS fs es fs.length es.length rec).1 = (l, lw, true) := by
  unfold leastR at h
  split at h
  · next h0 =>
    refine ⟨h0, ?_⟩
    split at h
    · next h1 =>
      obtain ⟨rfl, _⟩ := Prod.mk.inj h
      refine ⟨(leastS fs es fs.length es.length rec).1.2.1, ?_⟩
      rw [← h1]
    · cases h
  · next h0 => obtain ⟨_, h2⟩ := Prod.mk.inj h; exact absurd h2 h0
theorem leastR_fault {fs : List Fld} {es : List Edt} {rec l : List Int} {F G : Int} (h : leastR fs es rec F = (l, G)) (hG : G ≠ 0) : l = [] := by
  unfold leastR at h
  split at h
  · split at h
    · obtain ⟨_, h2⟩ := Prod.mk.inj h; exact absurd h2.symm hG
    · exact (Prod.mk.inj h).1.symm
  · exact (Prod.mk.inj h).1.symm
set_option maxHeartbeats 1000000 in
theorem law_core (n : Nat) (a : Option Addr) (cap : Nat) (fs : List Fld) (m : Nat) (ae : Option Addr) (ce : Nat) (es : List Edt) (w : World) (φ : Phi) (hφ : Fz φ w) (s : SlV φ a cap fs) (hn : Hid (fs.length = n)) (hm : n ≤ 9223372036854775807) (hg : Hid (∀ x ∈ fs, FldG x)) (se : SlV φ ae ce es) (hne : Hid (es.length = m)) (hme : m ≤ 9223372036854775807) (hge : Hid (∀ x ∈ es, EdtG x))
    (nr : Nat) (a2 : Option Addr) (c2 : Nat) (rec : List Int) (sr : SlV φ a2 c2 rec) (hrl : Hid (rec.length = nr)) (hmr : nr ≤ 9223372036854775807) (no : Nat) (a3 : Option Addr) (c3 : Nat) (oth : List Int) (so : SlV φ a3 c3 oth) (hol : Hid (oth.length = no)) (hmo : no ≤ 17592186044416) :
    Calls Try.prog 3 #[.agg #[.slice a n cap, .slice ae m ce], .slice a2 nr c2, .slice a3 no c3] w fun e w' => e = .returned (.bool true) ∧ Below w.heap.size w w' := by
  obtain ⟨F, hF⟩ : ∃ F, Hid (withF fs es rec = F) := ⟨_, Lib.hid rfl⟩
  obtain ⟨q, hq⟩ : ∃ q, Hid (leastR fs es rec F = q) := ⟨_, Lib.hid rfl⟩
  obtain ⟨l, G⟩ := q
  have hi0 := Lib.hid ((Inv.start hφ).alloc (.cells #[.slice a n cap, .slice ae m ce] 25))
  have hB := Lib.hid (Blk.new w #[.slice a n cap, .slice ae m ce] 25)
  go_enter Try.func3, Try.ntmps3
  go_wp2_with fail
  refine (Least_any n a cap fs m ae ce es _ φ (hφ.alloc _) s hn hm hg se hne hme hge nr a2 c2 rec sr hrl hmr hF hq).mono ?_
  rintro e w1 ⟨φ1, aL, cL, rfl, hi1, sL⟩
  have H1 := Lib.hid (hi0.out.call hi1)
  have B1 := Lib.hid (hB.out.callB hi1.bel)
  clear hi1 hi0 hB
  by_cases hG : G = 0
  case neg =>
    have hgg : (G != 0) = true := by simp [hG]
    obtain rfl := leastR_fault hq.out hG
    clear hG
    go_wp2
    go_ret
    exact ⟨rfl, H1.out.bel⟩
  subst hG
  obtain ⟨hF0, lw, hls⟩ := leastR_zero hq.out
  subst hF0
  obtain ⟨hp, hlr⟩ := withF_zero hF.out
  have OK := planF_zero hp
  obtain ⟨f1, f2, f3, f4, f5, f6⟩ := least_law OK hlr hls
  obtain ⟨x, ok, hx⟩ : ∃ x ok, Hid (firstS fs es fs.length es.length rec l = (x, ok)) := ⟨_, _, Lib.hid rfl⟩
  rw [hx.out] at f2 f3 f4 f5
  dsimp only at f2 f3 f4 f5
  subst f2
  have hFl : Hid (firstF fs rec l 0 = 0) := Lib.hid (by rw [firstF, if_pos rfl]; exact f1)
  have hRl : Hid (firstR fs es rec l 0 = (x, true)) := Lib.hid (by rw [firstR, if_pos rfl]; exact hx.out)
  have hWx : Hid (withF fs es x = 0) := Lib.hid (by rw [withF, if_neg (by simp [hp])]; exact f3)
  have hPx : Hid (passR fs es x 0 = true) := Lib.hid (by rw [passR, if_pos rfl]; exact f5)
  have hxl : Hid (x.length = n) := Lib.hid (by rw [f4]; exact hn.out)
  have hln : Hid (∀ k ∈ l, 0 ≤ k ∧ k < (n : Int)) := Lib.hid (by rw [← hn.out]; exact freeF_zero f1)
  have F6 := Lib.hid f6
  have WT : Hid (∀ k : Int, 0 ≤ k → k < n → 1 ≤ wOf fs k ∧ wOf fs k ≤ 1000) := Lib.hid (fun k h1 h2 => wts OK h1 (by rw [hn.out]; exact h2))
  obtain ⟨nl, hnl⟩ : ∃ k, Hid (l.length = k) := ⟨_, Lib.hid rfl⟩
  have hnlm : nl ≤ 17592186044416 := by
    have h1 : l = apL rec x fs.length ∨ True := .inr trivial
    have h2 := sL.capn
    have h3 : l.length ≤ fs.length := by
      have hI := leastS_inv fs es fs.length es.length rec
      rw [hls] at hI
      obtain ⟨_, ⟨y, _, _, hy⟩, _⟩ := hI.yes rfl
      dsimp only at hy
      rw [hy]; exact apL_len _ _ _
    have := OK.pos
    rw [hnl.out] at h3
    omega
  have hxm : n ≤ 12 := by have := OK.pos; rw [hn.out] at this; omega
  rw [hnl.out]
  clear f1 f3 f4 f5 f6 hls hp hlr OK hq hx
  have p0 : w1.cell? ⟨w.heap.size, 0, none⟩ = some (.slice a n cap) := B1.out.cell 0
  have p1 : w1.cell? ⟨w.heap.size, 1, none⟩ = some (.slice ae m ce) := B1.out.cell 1
  have HS := Lib.hid (rfl : w.heap.size = w.heap.size)
  generalize hbp : w.heap.size = bp at *
  replace hbp := Lib.hid hbp
  clear HS
  go_wp2_with fail
  refine (First_any n a cap fs m ae ce es w1 φ1 H1.out.fz (s.mono H1.out.le) hn hm hg (se.mono H1.out.le) hne hme hge nr a2 c2 rec (sr.mono H1.out.le) hrl hmr nl aL cL l sL hnl (by omega) hF hFl hRl).mono ?_
  rintro e w2 ⟨φ2, aX, cX, rfl, hi2, sX⟩
  have H2 := Lib.hid (H1.out.call hi2)
  have B2 := Lib.hid (B1.out.callB hi2.bel)
  have sL2 := sL.mono hi2.le
  clear hi2 H1 B1 p0 p1 sL
  rw [hxl.out]
  have p0 : w2.cell? ⟨bp, 0, none⟩ = some (.slice a n cap) := B2.out.cell 0
  have p1 : w2.cell? ⟨bp, 1, none⟩ = some (.slice ae m ce) := B2.out.cell 1
  go_wp2_with fail
  refine (Passes_any n a cap fs m ae ce es w2 φ2 H2.out.fz (s.mono H2.out.le) hn hm hg (se.mono H2.out.le) hne hme hge n aX cX x sX hxl (by omega) hWx hPx).mono ?_
  rintro e w3 ⟨rfl, hb3⟩
  have H3 := Lib.hid (H2.out.callB hb3)
  have B3 := Lib.hid (B2.out.callB hb3)
  clear hb3 H2 B2 p0 p1
  have p0 : w3.cell? ⟨bp, 0, none⟩ = some (.slice a n cap) := B3.out.cell 0
  have p1 : w3.cell? ⟨bp, 1, none⟩ = some (.slice ae m ce) := B3.out.cell 1
  obtain ⟨G3, hG3⟩ : ∃ k, Hid (firstF fs rec oth 0 = k) := ⟨_, Lib.hid rfl⟩
  obtain ⟨y, ok3, hy⟩ : ∃ y ok, Hid (firstR fs es rec oth G3 = (y, ok)) := ⟨_, _, Lib.hid rfl⟩
  go_wp2_with fail
  refine (First_any n a cap fs m ae ce es w3 φ2 H3.out.fz (s.mono H3.out.le) hn hm hg (se.mono H3.out.le) hne hme hge nr a2 c2 rec (sr.mono H3.out.le) hrl hmr no a3 c3 oth (so.mono H3.out.le) hol (by omega) hF hG3 hy).mono ?_
  rintro e w4 ⟨φ4, aY, cY, rfl, hi4, sY⟩
  have H4 := Lib.hid (H3.out.call hi4)
  have B4 := Lib.hid (B3.out.callB hi4.bel)
  have sL4 := sL2.mono hi4.le
  clear hi4 H3 B3 p0 p1 sL2
  have p0 : w4.cell? ⟨bp, 0, none⟩ = some (.slice a n cap) := B4.out.cell 0
  by_cases hG3z : G3 = 0
  case neg =>
    have hgg : (G3 != 0) = true := by simp [hG3z]
    clear hG3z
    go_wp2
    go_ret
    exact ⟨rfl, by rw [hbp.out]; exact H4.out.bel⟩
  subst hG3z
  cases ok3
  case false =>
    go_wp2
    go_ret
    exact ⟨rfl, by rw [hbp.out]; exact H4.out.bel⟩
  have hfo : freeF fs.length oth = 0 := by have h := hG3.out; rw [firstF, if_pos rfl] at h; exact h
  have hle := F6.out oth hfo (by have h := hy.out; rw [firstR, if_pos rfl] at h; rw [h])
  have hrn : Hid (∀ k ∈ oth, 0 ≤ k ∧ k < (n : Int)) := Lib.hid (by rw [← hn.out]; exact freeF_zero hfo)
  obtain ⟨q1, hq1⟩ : ∃ k, Hid (wSum fs oth = k) := ⟨_, Lib.hid rfl⟩
  obtain ⟨q2, hq2⟩ : ∃ k, Hid (wSum fs l = k) := ⟨_, Lib.hid rfl⟩
  rw [hq1.out, hq2.out] at hle
  clear hfo
  go_wp2_with fail
  refine (weight_any n a cap fs w4 φ4 H4.out.fz (s.mono H4.out.le) hn WT hm bp p0 no a3 c3 oth (so.mono H4.out.le) hol (by omega) hrn hq1).mono ?_
  rintro e w5 ⟨rfl, rfl⟩
  go_wp2_with fail
  refine (weight_any n a cap fs w4 φ4 H4.out.fz (s.mono H4.out.le) hn WT hm bp p0 nl aL cL l sL4 hnl (by omega) hln hq2).mono ?_
  rintro e w5 ⟨rfl, rfl⟩
  go_wp2
  go_ret
  exact ⟨by first | rfl | simp [hle], by rw [hbp.out]; exact H4.out.bel⟩
theorem editLeastIsLeast_walk (w : World) (φ : Phi) (hφ : Fz φ w) (cs : Array Value) (x : Plan) (hx : Rep.rep φ x cs.toList) (g : PlanG x)
    (ad : Option Addr) (cp : Nat) (r : List Int) (sr : SlV φ ad cp r) (gr : r.length * 8 ≤ reachBytes ∧ ∀ x ∈ r, IsI64 x) (ad2 : Option Addr) (cp2 : Nat) (o : List Int) (so : SlV φ ad2 cp2 o) (go : o.length * 8 ≤ reachBytes ∧ ∀ x ∈ o, IsI64 x) :
    Calls Try.prog 3 #[.agg cs, .slice ad r.length cp, .slice ad2 o.length cp2] w fun e w' => e = .returned (.bool true) ∧ Below w.heap.size w w' := by
  obtain ⟨a, cap, ae, ce, A⟩ := plan_open hx g
  rw [A.e]
  have h1 := ints_len gr.1
  have h2 := ints_len go.1
  exact law_core _ a cap x.1 _ ae ce x.2 w φ hφ A.s (Lib.hid rfl) A.hm (Lib.hid A.hg) A.se (Lib.hid rfl) A.hme (Lib.hid A.hge) _ ad cp r sr (Lib.hid rfl) (by omega) _ ad2 cp2 o so (Lib.hid rfl) h2
end Go.Proofs.Ytambgcijceecpaa
