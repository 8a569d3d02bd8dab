/- The law EditPlansMatchSpec's walk, at the claim form's data. Conditions: the library's tables of blanks and of powers of ten read as they were laid. -/
import Derived.Test.YtambgcijceecpaaDoorT5
import Derived.Test.YtambgcijceecpaaDoorPl
namespace Go.Proofs.YtambgcijceecpaaDoor
open Go.RowKit
set_option linter.unusedVariables false
section
variable {w0 W : World} {φ ψ : Phi} {n : Nat} {a : Option Addr} {cap : Nat} {fs : List Fld} {m : Nat} {ae : Option Addr} {ce : Nat} {es : List Edt}
theorem CheckPlan_R (s : SlV ψ a cap fs) (hn : Hid (fs.length = n)) (hm : n ≤ 9223372036854775807) (hg : Hid (∀ x ∈ fs, FldG x)) (se : SlV ψ ae ce es) (hne : Hid (es.length = m)) (hme : m ≤ 9223372036854775807) (hge : Hid (∀ x ∈ es, EdtG x)) {F : Int} (hF : Hid (planF fs es = F)) (h : RxS w0 φ ψ W) :
    Calls Tryd.prog 27 #[.agg #[.slice a n cap, .slice ae m ce]] W (fun e w' => e = .returned (.int .i64 F) ∧ Hid (RxS w0 φ ψ w')) := by
  refine (CheckPlan_any n a cap fs m ae ce es W ψ h.fz s hn hm hg se hne hme hge).mono ?_
  rintro e w' ⟨rfl, hb⟩
  exact ⟨by rw [hF.out], Lib.hid (h.callB hb)⟩
theorem RCheckPlan_R (ht : TabP ψ) (s : SlV ψ a cap fs) (hn : Hid (fs.length = n)) (hm : n ≤ 9223372036854775807) (hg : Hid (∀ x ∈ fs, FldG x)) (se : SlV ψ ae ce es) (hne : Hid (es.length = m)) (hme : m ≤ 9223372036854775807) (hge : Hid (∀ x ∈ es, EdtG x)) {F : Int} (hF : Hid (planF fs es = F)) (h : RxS w0 φ ψ W) :
    Calls Tryd.prog 28 #[.agg #[.slice a n cap, .slice ae m ce]] W (fun e w' => e = .returned (.int .i64 F) ∧ Hid (RxS w0 φ ψ w')) := by
  refine (RCheckPlan_any n a cap fs m ae ce es W ψ h.fz ht s hn hm hg se hne hme hge hF).mono ?_
  rintro e w' ⟨rfl, hb⟩
  exact ⟨rfl, Lib.hid (h.callB hb)⟩
end
set_option maxHeartbeats 1000000 in
theorem plans_core
  (n : Nat) (a : Option Addr) (cap : Nat) (fs : List Fld) (m : Nat) (ae : Option Addr) (ce : Nat) (es : List Edt) (w : World) (φ : Phi) (hφ : Fz φ w) (hpw : PowP φ) (s : SlV φ a cap fs) (hn : Hid (fs.length = n)) (hm : n ≤ 9223372036854775807) (hg : Hid (∀ x ∈ fs, FldG x)) (se : SlV φ ae ce es) (hne : Hid (es.length = m)) (hme : m ≤ 9223372036854775807) (hge : Hid (∀ x ∈ es, EdtG x))
    (htb : TabP φ) :
    Calls Tryd.prog 7 #[.agg #[.slice a n cap, .slice ae m ce]] w (fun e w' => e = .returned (.bool true) ∧ Below w.heap.size w w') := by
  obtain ⟨φ1, le1, i1, k1⟩ := (Inv.start hφ).frz (.cells #[.slice a n cap, .slice ae m ce] 25)
  have HBX := Lib.hid (fun (w' : World) (hf : Fz φ1 w') => (hf.blk k1))
  have HPW := Lib.hid (hpw.mono le1)
  have HTB := Lib.hid (htb.mono le1)
  have s1 := s.mono le1
  have se1 := se.mono le1
  have hX : Hid (RxS w φ φ1 (w.alloc (.cells #[.slice a n cap, .slice ae m ce] 25))) := Lib.hid ⟨(Inv.start hφ).alloc _, i1.fz⟩
  clear i1 k1 le1 hpw htb
  obtain ⟨F, hF⟩ : ∃ F, Hid (planF fs es = F) := ⟨_, Lib.hid rfl⟩
  obtain ⟨t, G, ht⟩ : ∃ t G, Hid (textR fs es F = (t, G)) := ⟨_, _, Lib.hid rfl⟩
  go_enter Tryd.func7, Tryd.ntmps7
  go_wp2_with fail
  refine (Text_any n a cap fs m ae ce es _ φ1 hX.out.fz HPW.out s1 hn hm hg se1 hne hme hge hF ht).mono ?_
  rintro e w2 ⟨rfl, hb2⟩
  replace hX := Lib.hid (hX.out.callB hb2)
  clear hb2
  generalize w.heap.size = bp at *
  have p0 : w2.cell? ⟨bp, 0, none⟩ = some (.slice a n cap) := (HBX.out _ hX.out.fz).cell 0
  have p1 : w2.cell? ⟨bp, 1, none⟩ = some (.slice ae m ce) := (HBX.out _ hX.out.fz).cell 1
  go_wp2_with fail
  refine (RText_any n a cap fs m ae ce es _ φ1 hX.out.fz HPW.out s1 hn hm hg se1 hne hme hge HTB.out hF ht).mono ?_
  rintro e w3 ⟨rfl, hb3⟩
  replace hX := Lib.hid (hX.out.callB hb3)
  clear hb3 p0 p1
  have p0 : w3.cell? ⟨bp, 0, none⟩ = some (.slice a n cap) := (HBX.out _ hX.out.fz).cell 0
  have p1 : w3.cell? ⟨bp, 1, none⟩ = some (.slice ae m ce) := (HBX.out _ hX.out.fz).cell 1
  have e1 : (F == F) = true := by simp
  have e2 : (t.toList == t.toList) = true := str_eq_t rfl
  have e3 : (G == G) = true := by simp
  have hXd : Hid (RxS w φ φ1 w3.drew) := Lib.hid (hX.out.callB (bdrewN (Below.refl w3.heap.size w3) 1))
  go_wp2
  go_region_held3 (fun w' => w'.cell? ⟨bp, 0, none⟩ = some (.slice a n cap) ∧ w'.cell? ⟨bp, 1, none⟩ = some (.slice ae m ce)) (first | exact ⟨p0, p1⟩ | exact ⟨by assumption, by assumption⟩) (first
    | ((with_reducible refine (CheckPlan_R s1 hn hm hg se1 hne hme hge hF (Hid.out (by assumption))).mono ?_); rintro e w' ⟨rfl, hY⟩; have z0 : w'.cell? ⟨bp, 0, none⟩ = some (.slice a n cap) := (HBX.out _ hY.out.fz).cell 0; have z1 : w'.cell? ⟨bp, 1, none⟩ = some (.slice ae m ce) := (HBX.out _ hY.out.fz).cell 1)
    | ((with_reducible refine (RCheckPlan_R HTB.out s1 hn hm hg se1 hne hme hge hF (Hid.out (by assumption))).mono ?_); rintro e w' ⟨rfl, hY⟩; have z0 : w'.cell? ⟨bp, 0, none⟩ = some (.slice a n cap) := (HBX.out _ hY.out.fz).cell 0; have z1 : w'.cell? ⟨bp, 1, none⟩ = some (.slice ae m ce) := (HBX.out _ hY.out.fz).cell 1))
  rename World => W9
  have hX9 : Hid (RxS w φ φ1 W9) := by assumption
  go_wp2
  go_ret
  exact ⟨rfl, hX9.out.inv.bel⟩
theorem editPlansMatchSpec_walk (w : World) (φ : Phi) (hφ : Fz φ w) (hp : PowP φ) (htb : TabP φ) (cs : Array Value) (x : Plan) (hx : Rep.rep φ x cs.toList) (g : PlanG x) :
    Calls Tryd.prog 7 #[.agg cs] w fun e w' => e = .returned (.bool true) ∧ Below w.heap.size w w' := by
  obtain ⟨a, cap, ae, ce, A⟩ := plan_open hx g
  rw [A.e]
  exact plans_core _ a cap x.1 _ ae ce x.2 w φ hφ hp A.s (Lib.hid rfl) A.hm (Lib.hid A.hg) A.se (Lib.hid rfl) A.hme (Lib.hid A.hge) htb
end Go.Proofs.YtambgcijceecpaaDoor
