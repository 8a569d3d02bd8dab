/- The law EditRulesMatchSpec, from needed's contract. Conditions: NeedC (a premise, to be proved as needed_any); the library's table of blanks reads as it was laid. -/
import Derived.Test.YtambgcijceecpaaDoorE27
namespace Go.Proofs.YtambgcijceecpaaDoor
open Go.RowKit
set_option linter.unusedVariables false
set_option maxHeartbeats 1000000 in
theorem rules_core (NC : NeedC)
  (n : Nat) (a : Option Addr) (cap : Nat) (fs : List Fld) (m : Nat) (ae : Option Addr) (ce : Nat) (es : List Edt) (w : World) (φ : Phi) (hφ : Fz φ w) (ht : TabP φ) (s : SlV φ a cap fs) (hn : Hid (fs.length = n)) (hm : n ≤ 9223372036854775807) (hg : Hid (∀ x ∈ fs, FldG x)) (se : SlV φ ae ce es) (hne : Hid (es.length = m)) (hme : m ≤ 9223372036854775807) (hge : Hid (∀ x ∈ es, EdtG x))
    :
    Calls Tryd.prog 4 #[.agg #[.slice a n cap, .slice ae m ce]] w fun e w' => e = .returned (.bool true) ∧ Below w.heap.size w w' := by
  obtain ⟨F, hF⟩ : ∃ F, Hid (planF fs es = F) := ⟨_, Lib.hid rfl⟩
  obtain ⟨l, hl⟩ : ∃ l, Hid (redR fs es F = l) := ⟨_, Lib.hid rfl⟩
  obtain ⟨r, o, hr⟩ : ∃ r o, Hid (clashR fs es F = (r, o)) := ⟨_, _, Lib.hid rfl⟩
  have hTT := Lib.hid ht
  clear ht
  have H0 := Lib.hid ((Inv.start hφ).alloc (.cells #[.slice a n cap, .slice ae m ce] 25))
  have B0 := Lib.hid (Blk.new w #[.slice a n cap, .slice ae m ce] 25)
  have hFF : (F != F) = false := by simp
  have hGG : (F == F) = true := by simp
  go_enter Tryd.func4, Tryd.ntmps4
  go_wp2_with fail
  refine (Redundant_of NC n a cap fs m ae ce es _ φ H0.out.fz s hn hm hg se hne hme hge hF hl).mono ?_
  rintro e w1 ⟨φ1, a4, c4, rfl, hi1, s4⟩
  generalize hbp : w.heap.size = bp at *
  replace hbp := Lib.hid hbp
  have H1 := Lib.hid (H0.out.call hi1)
  have B1 := Lib.hid (B0.out.callB hi1.bel)
  clear hi1 H0 B0
  have p0 : w1.cell? ⟨bp, 0, none⟩ = some (.slice a n cap) := B1.out.cell 0
  have p1 : w1.cell? ⟨bp, 1, none⟩ = some (.slice ae m ce) := B1.out.cell 1
  go_wp2_with fail
  refine (RRedundant_any n a cap fs m ae ce es w1 φ1 H1.out.fz (hTT.out.mono H1.out.le) (s.mono H1.out.le) hn hm hg (se.mono H1.out.le) hne hme hge hF hl).mono ?_
  rintro e w2 ⟨φ2, a5, c5, rfl, hi2, s5⟩
  have H2 := Lib.hid (H1.out.call hi2)
  have B2 := Lib.hid (B1.out.callB hi2.bel)
  have s4' := s4.mono hi2.le
  clear hi2 H1 B1 s4 p0 p1
  go_wp2_with fail
  refine (Equal_t _ a4 c4 l a5 c5 w2 φ2 φ2 H2.out.fz H2.out.fz s4' (Lib.hid rfl) s4'.len s5).mono ?_
  rintro e w3 ⟨rfl, hb3⟩
  have H3 := Lib.hid (H2.out.callB hb3)
  have B3 := Lib.hid (B2.out.callB hb3)
  clear hb3 H2 B2
  have p0 : w3.cell? ⟨bp, 0, none⟩ = some (.slice a n cap) := B3.out.cell 0
  have p1 : w3.cell? ⟨bp, 1, none⟩ = some (.slice ae m ce) := B3.out.cell 1
  go_wp2_with fail
  refine (Clash_of NC n a cap fs m ae ce es w3 φ2 H3.out.fz (s.mono H3.out.le) hn hm hg (se.mono H3.out.le) hne hme hge hF hr).mono ?_
  rintro e w4 ⟨φ4, a6, c6, rfl, hi4, s6⟩
  have H4 := Lib.hid (H3.out.call hi4)
  have B4 := Lib.hid (B3.out.callB hi4.bel)
  clear hi4 H3 B3 p0 p1
  have p0 : w4.cell? ⟨bp, 0, none⟩ = some (.slice a n cap) := B4.out.cell 0
  have p1 : w4.cell? ⟨bp, 1, none⟩ = some (.slice ae m ce) := B4.out.cell 1
  go_wp2_with fail
  refine (RClash_any n a cap fs m ae ce es w4 φ4 H4.out.fz (hTT.out.mono H4.out.le) (s.mono H4.out.le) hn hm hg (se.mono H4.out.le) hne hme hge hF hr).mono ?_
  rintro e w5 ⟨φ5, a7, c7, rfl, hi5, s7⟩
  have H5 := Lib.hid (H4.out.call hi5)
  have s6' := s6.mono hi5.le
  clear hi5 H4 B4 s6 p0 p1
  have hoo : (o == o) = true := by simp
  go_wp2_with fail
  refine (Equal_t _ a6 c6 r a7 c7 w5 φ5 φ5 H5.out.fz H5.out.fz s6' (Lib.hid rfl) s6'.len s7).mono ?_
  rintro e w6 ⟨rfl, hb6⟩
  have H6 := Lib.hid (H5.out.callB hb6)
  clear hb6 H5
  go_wp2
  go_ret
  exact ⟨rfl, by rw [hbp.out]; exact H6.out.bel⟩
end Go.Proofs.YtambgcijceecpaaDoor
