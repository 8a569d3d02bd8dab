/- The walk of the program's Fails; the walk of the law EditRecordsMatchSpec. Conditions: the library's table of blanks reads as it was laid. -/
import Derived.Test.YtambgcijceecpaaDoorQ7
import Derived.Test.YtambgcijceecpaaDoorPl
namespace Go.Proofs.YtambgcijceecpaaDoor
open Go.RowKit
set_option linter.unusedVariables false
theorem Fails_any
  (n : Nat) (a : Option Addr) (cap : Nat) (fs : List Fld) (m : Nat) (ae : Option Addr) (ce : Nat) (es : List Edt) (w : World) (φ : Phi) (hφ : Fz φ w) (s : SlV φ a cap fs) (hn : Hid (fs.length = n)) (hm : n ≤ 9223372036854775807) (hg : Hid (∀ x ∈ fs, FldG x)) (se : SlV φ ae ce es) (hne : Hid (es.length = m)) (hme : m ≤ 9223372036854775807) (hge : Hid (∀ x ∈ es, EdtG x))
      (nr : Nat) (a2 : Option Addr) (c2 : Nat) (rec : List Int) (sr : SlV φ a2 c2 rec) (hrl : Hid (rec.length = nr)) (hmr : nr ≤ 9223372036854775807)
    {F : Int} (hF : Hid (withF fs es rec = F)) {l : List Int} (hl : Hid (failsR fs es rec F = l)) :
    Calls Tryd.prog 9 #[.agg #[.slice a n cap, .slice ae m ce], .slice a2 nr c2] w (SlFPost l F φ w) := by
  have hi0 := Lib.hid ((Inv.start hφ).alloc (.cells #[.slice a n cap, .slice ae m ce] 25))
  go_enter Tryd.func9, Tryd.ntmps9
  go_wp2_with fail
  refine (with_f n a cap fs m ae ce es _ φ (hφ.alloc _) s hn hm hg se hne hme hge nr a2 c2 rec sr hrl hmr hF).mono ?_
  rintro e w1 ⟨φ1, p, rfl, hi1, hR⟩
  have HI := Lib.hid (hi0.out.call hi1)
  have HR := Lib.hid hR
  clear hi1 hi0 hR
  by_cases hf : F = 0
  · obtain ⟨br, a', cap', ae', ce', ab', cb', rfl, hV⟩ := HR.out hf
    obtain ⟨hp, hlr⟩ := withF_zero (hF.out.trans hf)
    have hl' : Hid (failL es rec fs.length es.length = l) := Lib.hid (by rw [← hl.out, failsR, if_pos hf])
    have hl2 : Hid (rec.length = fs.length) := Lib.hid hlr
    obtain rfl : fs.length = nr := by rw [← hrl.out, hlr]
    have srr := sr.mono HI.out.le
    have HF := Lib.hid hf
    have hff : (F != 0) = false := by simp [hf]
    clear hf hp hlr HR
    go_wp2_with fail
    refine (fails_any hV w1 HI.out.fz a2 c2 rec srr hl2).mono ?_
    rintro e w2 ⟨a5, c5, rfl, hi5, ho5⟩
    rw [hl'.out] at ho5 ⊢
    obtain ⟨φ3, l3, i3, s3, _⟩ := ho5.release hi5
    have H3 := Lib.hid (HI.out.call i3)
    clear hi5 ho5 l3 i3
    go_wp2
    go_ret2
    obtain rfl := HF.out
    exact ⟨φ3, a5, c5, rfl, H3.out, s3⟩
  · have hff : (F != 0) = true := by simp [hf]
    have hl' : Hid ([] = l) := Lib.hid (by rw [← hl.out, failsR, if_neg hf])
    clear hf
    go_wp2
    go_ret2
    obtain rfl := hl'.out
    exact ⟨φ1, none, 0, rfl, HI.out, SlV.empty _⟩
theorem SlV.len {α : Type} [Rep α] {φ : Phi} {a : Option Addr} {cap : Nat} {xs : List α} (h : SlV φ a cap xs) : xs.length ≤ 9223372036854775807 := by
  have h1 := h.capn; have h2 := h.capm; unfold maxLen at h2; omega
set_option maxRecDepth 100000 in
set_option maxHeartbeats 1000000 in
theorem records_core
  (n : Nat) (a : Option Addr) (cap : Nat) (fs : List Fld) (m : Nat) (ae : Option Addr) (ce : Nat) (es : List Edt) (w : World) (φ : Phi) (hφ : Fz φ w) (s : SlV φ a cap fs) (hn : Hid (fs.length = n)) (hm : n ≤ 9223372036854775807) (hg : Hid (∀ x ∈ fs, FldG x)) (se : SlV φ ae ce es) (hne : Hid (es.length = m)) (hme : m ≤ 9223372036854775807) (hge : Hid (∀ x ∈ es, EdtG x))
      (nr : Nat) (a2 : Option Addr) (c2 : Nat) (rec : List Int) (sr : SlV φ a2 c2 rec) (hrl : Hid (rec.length = nr)) (hmr : nr ≤ 9223372036854775807)
    (ht : TabP φ) (nf : Nat) (a3 : Option Addr) (c3 : Nat) (free : List Int) (sf : SlV φ a3 c3 free) (hfl : Hid (free.length = nf)) (hmf : nf ≤ 9223372036854775806) :
    Calls Tryd.prog 3 #[.agg #[.slice a n cap, .slice ae m ce], .slice a2 nr c2, .slice a3 nf c3] w fun e w' => e = .returned (.bool true) ∧ Below w.heap.size w w' := by
  obtain ⟨F, hF⟩ : ∃ F, Hid (withF fs es rec = F) := ⟨_, Lib.hid rfl⟩
  obtain ⟨l, hl⟩ : ∃ l, Hid (failsR fs es rec F = l) := ⟨_, Lib.hid rfl⟩
  obtain ⟨b, hb⟩ : ∃ b, Hid (passR fs es rec F = b) := ⟨_, Lib.hid rfl⟩
  obtain ⟨G, hG⟩ : ∃ G, Hid (firstF fs rec free F = G) := ⟨_, Lib.hid rfl⟩
  obtain ⟨x, ok, hx⟩ : ∃ x ok, Hid (firstR fs es rec free G = (x, ok)) := ⟨_, _, Lib.hid rfl⟩
  have hTT := Lib.hid ht
  clear ht
  have H0 := Lib.hid ((Inv.start hφ).alloc (.cells #[.slice a n cap, .slice ae m ce] 25))
  have B0 := Lib.hid (Blk.new w #[.slice a n cap, .slice ae m ce] 25)
  have hFF : (F != F) = false := by simp
  have hGG : (G == G) = true := by simp
  have hbb : (b != b) = false := by simp
  have hkk : (ok == ok) = true := by simp
  go_enter Tryd.func3, Tryd.ntmps3
  go_wp2_with fail
  refine (Fails_any n a cap fs m ae ce es _ φ H0.out.fz s hn hm hg se hne hme hge nr a2 c2 rec sr hrl hmr hF hl).mono ?_
  rintro e w1 ⟨φ1, a4, c4, rfl, hi1, s4⟩
  generalize hbp : w.heap.size = bp at *
  replace hbp := Lib.hid hbp
  have H1 := Lib.hid (H0.out.call hi1)
  have B1 := Lib.hid (B0.out.callB hi1.bel)
  clear hi1 H0 B0
  have p0 : w1.cell? ⟨bp, 0, none⟩ = some (.slice a n cap) := B1.out.cell 0
  have p1 : w1.cell? ⟨bp, 1, none⟩ = some (.slice ae m ce) := B1.out.cell 1
  go_wp2_with fail
  refine (RFails_any n a cap fs m ae ce es w1 φ1 H1.out.fz (hTT.out.mono H1.out.le) (s.mono H1.out.le) hn hm hg (se.mono H1.out.le) hne hme hge nr a2 c2 rec (sr.mono H1.out.le) hrl hmr hF hl).mono ?_
  rintro e w2 ⟨φ2, a5, c5, rfl, hi2, s5⟩
  have H2 := Lib.hid (H1.out.call hi2)
  have B2 := Lib.hid (B1.out.callB hi2.bel)
  have s4' := s4.mono hi2.le
  clear hi2 H1 B1 s4 p0 p1
  go_wp2_with fail
  refine (Equal_t _ a4 c4 l a5 c5 w2 φ2 φ2 H2.out.fz H2.out.fz s4' (Lib.hid rfl) s4'.len s5).mono ?_
  rintro e w3 ⟨rfl, hb3⟩
  have H3 := Lib.hid (H2.out.callB hb3)
  have B3 := Lib.hid (B2.out.callB hb3)
  clear hb3 H2 B2
  have p0 : w3.cell? ⟨bp, 0, none⟩ = some (.slice a n cap) := B3.out.cell 0
  have p1 : w3.cell? ⟨bp, 1, none⟩ = some (.slice ae m ce) := B3.out.cell 1
  go_wp2_with fail
  refine (Passes_any n a cap fs m ae ce es w3 φ2 H3.out.fz (s.mono H3.out.le) hn hm hg (se.mono H3.out.le) hne hme hge nr a2 c2 rec (sr.mono H3.out.le) hrl hmr hF hb).mono ?_
  rintro e w4 ⟨rfl, hb4⟩
  have H4 := Lib.hid (H3.out.callB hb4)
  have B4 := Lib.hid (B3.out.callB hb4)
  clear hb4 H3 B3 p0 p1
  have p0 : w4.cell? ⟨bp, 0, none⟩ = some (.slice a n cap) := B4.out.cell 0
  have p1 : w4.cell? ⟨bp, 1, none⟩ = some (.slice ae m ce) := B4.out.cell 1
  go_wp2_with fail
  refine (RPasses_any n a cap fs m ae ce es w4 φ2 H4.out.fz (hTT.out.mono H4.out.le) (s.mono H4.out.le) hn hm hg (se.mono H4.out.le) hne hme hge nr a2 c2 rec (sr.mono H4.out.le) hrl hmr hF hb).mono ?_
  rintro e w5 ⟨rfl, hb5⟩
  have H5 := Lib.hid (H4.out.callB hb5)
  have B5 := Lib.hid (B4.out.callB hb5)
  clear hb5 H4 B4 p0 p1
  have p0 : w5.cell? ⟨bp, 0, none⟩ = some (.slice a n cap) := B5.out.cell 0
  have p1 : w5.cell? ⟨bp, 1, none⟩ = some (.slice ae m ce) := B5.out.cell 1
  go_wp2_with fail
  refine (First_any n a cap fs m ae ce es w5 φ2 H5.out.fz (s.mono H5.out.le) hn hm hg (se.mono H5.out.le) hne hme hge nr a2 c2 rec (sr.mono H5.out.le) hrl hmr nf a3 c3 free (sf.mono H5.out.le) hfl (by omega) hF hG hx).mono ?_
  rintro e w6 ⟨φ6, a6, c6, rfl, hi6, s6⟩
  have H6 := Lib.hid (H5.out.call hi6)
  have B6 := Lib.hid (B5.out.callB hi6.bel)
  clear hi6 H5 B5 p0 p1
  have p0 : w6.cell? ⟨bp, 0, none⟩ = some (.slice a n cap) := B6.out.cell 0
  have p1 : w6.cell? ⟨bp, 1, none⟩ = some (.slice ae m ce) := B6.out.cell 1
  go_wp2_with fail
  refine (RFirst_any n a cap fs m ae ce es w6 φ6 H6.out.fz (hTT.out.mono H6.out.le) (s.mono H6.out.le) hn hm hg (se.mono H6.out.le) hne hme hge nr a2 c2 rec (sr.mono H6.out.le) hrl hmr nf a3 c3 free (sf.mono H6.out.le) hfl (by omega) hF hG hx).mono ?_
  rintro e w7 ⟨φ7, a7, c7, rfl, hi7, s7⟩
  have H7 := Lib.hid (H6.out.call hi7)
  have s6' := s6.mono hi7.le
  clear hi7 H6 B6 p0 p1 s6
  go_wp2_with fail
  refine (Equal_t _ a6 c6 x a7 c7 w7 φ7 φ7 H7.out.fz H7.out.fz s6' (Lib.hid rfl) s6'.len s7).mono ?_
  rintro e w8 ⟨rfl, hb8⟩
  have H8 := Lib.hid (H7.out.callB hb8)
  clear hb8 H7
  go_wp2
  go_ret
  exact ⟨rfl, by rw [hbp.out]; exact H8.out.bel⟩
theorem editRecordsMatchSpec_walk (w : World) (φ : Phi) (hφ : Fz φ w) (ht : TabP φ) (cs : Array Value) (x : Plan) (hx : Rep.rep φ x cs.toList) (g : PlanG x)
    (ad : Option Addr) (cp : Nat) (r : List Int) (sr : SlV φ ad cp r) (gr : r.length * 8 ≤ reachBytes ∧ ∀ x ∈ r, IsI64 x) (ad2 : Option Addr) (cp2 : Nat) (o : List Int) (so : SlV φ ad2 cp2 o) (go : o.length * 8 ≤ reachBytes ∧ ∀ x ∈ o, IsI64 x) :
    Calls Tryd.prog 3 #[.agg cs, .slice ad r.length cp, .slice ad2 o.length cp2] w fun e w' => e = .returned (.bool true) ∧ Below w.heap.size w w' := by
  obtain ⟨a, cap, ae, ce, A⟩ := plan_open hx g
  rw [A.e]
  have h1 := ints_len gr.1
  have h2 := ints_len go.1
  exact records_core _ a cap x.1 _ ae ce x.2 w φ hφ A.s (Lib.hid rfl) A.hm (Lib.hid A.hg) A.se (Lib.hid rfl) A.hme (Lib.hid A.hge) _ ad cp r sr (Lib.hid rfl) (by omega) ht _ ad2 cp2 o so (Lib.hid rfl) (by omega)
end Go.Proofs.YtambgcijceecpaaDoor
