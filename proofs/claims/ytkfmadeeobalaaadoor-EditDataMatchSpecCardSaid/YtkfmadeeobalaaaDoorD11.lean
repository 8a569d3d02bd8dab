/- The walks of Record, on both sides. Conditions: the library's tables of blanks and of powers of ten read as they were laid. -/
import Derived.Test.YtkfmadeeobalaaaDoorD10
namespace Go.Proofs.YtkfmadeeobalaaaDoor
open Go.RowKit
set_option linter.unusedVariables false
noncomputable def recdF (fs : List Fld) (es : List Edt) (l : List Giv) : Int := if planF fs es ≠ 0 then planF fs es else dataF l
def recdR (fs : List Fld) (l : List Giv) (F : Int) : List Int := if F = 0 then recO fs l fs.length else []
set_option maxRecDepth 100000 in
set_option maxHeartbeats 2000000 in
theorem Record_any
  (n : Nat) (a : Option Addr) (cap : Nat) (fs : List Fld) (m : Nat) (ae : Option Addr) (ce : Nat) (es : List Edt) (w : World) (φ : Phi) (hφ : Fz φ w) (ht : TabP φ) (hpw : PowP φ) (s : SlV φ a cap fs) (hn : Hid (fs.length = n)) (hm : n ≤ 9223372036854775807) (hg : Hid (∀ x ∈ fs, FldG x)) (se : SlV φ ae ce es) (hne : Hid (es.length = m)) (hme : m ≤ 9223372036854775807) (hge : Hid (∀ x ∈ es, EdtG x))
      (nd : Nat) (ad : Option Addr) (cd : Nat) (l : List Giv) (sl : SlV φ ad cd l) (hl : Hid (l.length = nd)) (hgl : Hid (∀ x ∈ l, x.1.1.size ≤ reachBytes))
    {F : Int} (hF : Hid (recdF fs es l = F)) {r : List Int} (hr : Hid (recdR fs l F = r)) :
    Calls Tryd.prog 13 #[.agg #[.slice a n cap, .slice ae m ce], .slice ad nd cd] w (SlFPost r F φ w) := by
  obtain ⟨φ1, le1, i1, k1⟩ := (Inv.start hφ).frz (.cells #[.slice a n cap, .slice ae m ce] 25)
  have H0 := Lib.hid i1
  have LE1 := Lib.hid le1
  have HBX := Lib.hid (fun (w' : World) (hf : Fz φ1 w') => hf.blk k1)
  have p0 : (w.alloc (.cells #[.slice a n cap, .slice ae m ce] 25)).cell? ⟨w.heap.size, 0, none⟩ = some (.slice a n cap) := box_at 0
  have p1 : (w.alloc (.cells #[.slice a n cap, .slice ae m ce] 25)).cell? ⟨w.heap.size, 1, none⟩ = some (.slice ae m ce) := box_at 1
  obtain ⟨P, hP⟩ : ∃ P, Hid (planF fs es = P) := ⟨_, Lib.hid rfl⟩
  have C00 := CheckPlan_any n a cap fs m ae ce es (w.alloc (.cells #[.slice a n cap, .slice ae m ce] 25)) φ1 i1.fz (s.mono le1) hn hm hg (se.mono le1) hne hme hge
  try rw [hP.out] at C00
  have C0 := Lib.hid C00
  clear C00
  have nd3 := sl.len
  rw [hl.out] at nd3
  replace ht := Lib.hid (ht.mono le1)
  replace hpw := Lib.hid (hpw.mono le1)
  clear i1 le1 k1
  go_enter Tryd.func13, Tryd.ntmps13
  go_wp2_with fail
  clear p0 p1
  generalize hbp : w.heap.size = bp at *
  replace hbp := Lib.hid hbp
  refine C0.out.mono ?_
  rintro e w1 ⟨rfl, hb1⟩
  have H1 : Hid (Inv bp w φ φ1 w1) := Lib.hid (by first | exact H0.out.callB hb1 | (rw [← hbp.out]; exact H0.out.callB hb1) | (have := H0.out.callB hb1; rw [hbp.out] at this; exact this))
  clear hb1 H0 C0
  by_cases hp : P = 0
  case neg =>
    have hpp : (P != 0) = true := by simp [hp]
    have HF : Hid (F = P) := Lib.hid (by rw [← hF.out, recdF, hP.out, if_pos hp])
    have HO : Hid (r = []) := Lib.hid (by rw [← hr.out, recdR, HF.out, if_neg hp])
    clear hp
    go_wp2
    go_ret2
    obtain rfl := HF.out
    obtain rfl := HO.out
    exact ⟨φ1, none, 0, rfl, by first | exact H1.out | (rw [hbp.out]; exact H1.out), SlV.empty _⟩
  subst hp
  obtain ⟨D, hD⟩ : ∃ D, Hid (dataF l = D) := ⟨_, Lib.hid rfl⟩
  have HF1 : Hid (F = D) := Lib.hid (by rw [← hF.out, recdF, hP.out, if_neg (by simp), hD.out])
  go_wp2_with fail
  refine (dataFault_any nd ad cd l w1 φ1 H1.out.fz hpw.out (sl.mono LE1.out) hl nd3 hgl hD).mono ?_
  rintro e w2 ⟨rfl, hb2⟩
  have H2 := Lib.hid (H1.out.callB hb2)
  clear hb2 H1
  by_cases hz : D = 0
  case neg =>
    have hzz : (D != 0) = true := by simp [hz]
    have HO : Hid (r = []) := Lib.hid (by rw [← hr.out, recdR, HF1.out, if_neg hz])
    clear hz
    go_wp2
    go_ret2
    obtain rfl := HF1.out
    obtain rfl := HO.out
    exact ⟨φ1, none, 0, rfl, by first | exact H2.out | (rw [hbp.out]; exact H2.out), SlV.empty _⟩
  subst hz
  have HO : Hid (r = recO fs l n) := Lib.hid (by rw [← hr.out, recdR, HF1.out, if_pos rfl, hn.out])
  have OK := planF_zero hP.out
  rw [hn.out] at OK
  have hn12 := OK.pos.2
  have p0 : w2.cell? ⟨bp, 0, none⟩ = some (.slice a n cap) := (HBX.out w2 H2.out.fz).cell 0
  have p1 : w2.cell? ⟨bp, 1, none⟩ = some (.slice ae m ce) := (HBX.out w2 H2.out.fz).cell 1
  clear OK
  go_wp2_with fail
  clear p0 p1
  refine (recordOf_any n hn12 a cap fs m ae ce w2 φ1 H2.out.fz (s.mono LE1.out) hn nd ad cd l (sl.mono LE1.out) hl).mono ?_
  rintro e w3 ⟨φ3, a3, c3, rfl, hi3, s3⟩
  have H3 := Lib.hid (H2.out.call hi3)
  have S3 := Lib.hid s3
  clear hi3 s3
  go_wp2
  go_ret2
  obtain rfl := HF1.out
  obtain rfl := HO.out
  exact ⟨φ3, a3, c3, rfl, by first | exact H3.out | (rw [hbp.out]; exact H3.out), S3.out⟩
set_option maxRecDepth 100000 in
set_option maxHeartbeats 2000000 in
theorem RRecord_any
  (n : Nat) (a : Option Addr) (cap : Nat) (fs : List Fld) (m : Nat) (ae : Option Addr) (ce : Nat) (es : List Edt) (w : World) (φ : Phi) (hφ : Fz φ w) (ht : TabP φ) (hpw : PowP φ) (s : SlV φ a cap fs) (hn : Hid (fs.length = n)) (hm : n ≤ 9223372036854775807) (hg : Hid (∀ x ∈ fs, FldG x)) (se : SlV φ ae ce es) (hne : Hid (es.length = m)) (hme : m ≤ 9223372036854775807) (hge : Hid (∀ x ∈ es, EdtG x))
      (nd : Nat) (ad : Option Addr) (cd : Nat) (l : List Giv) (sl : SlV φ ad cd l) (hl : Hid (l.length = nd)) (hgl : Hid (∀ x ∈ l, x.1.1.size ≤ reachBytes))
    {F : Int} (hF : Hid (recdF fs es l = F)) {r : List Int} (hr : Hid (recdR fs l F = r)) :
    Calls Tryd.prog 14 #[.agg #[.slice a n cap, .slice ae m ce], .slice ad nd cd] w (SlFPost r F φ w) := by
  obtain ⟨φ1, le1, i1, k1⟩ := (Inv.start hφ).frz (.cells #[.slice a n cap, .slice ae m ce] 25)
  have H0 := Lib.hid i1
  have LE1 := Lib.hid le1
  have HBX := Lib.hid (fun (w' : World) (hf : Fz φ1 w') => hf.blk k1)
  have p0 : (w.alloc (.cells #[.slice a n cap, .slice ae m ce] 25)).cell? ⟨w.heap.size, 0, none⟩ = some (.slice a n cap) := box_at 0
  have p1 : (w.alloc (.cells #[.slice a n cap, .slice ae m ce] 25)).cell? ⟨w.heap.size, 1, none⟩ = some (.slice ae m ce) := box_at 1
  obtain ⟨P, hP⟩ : ∃ P, Hid (planF fs es = P) := ⟨_, Lib.hid rfl⟩
  have C00 := RCheckPlan_any n a cap fs m ae ce es (w.alloc (.cells #[.slice a n cap, .slice ae m ce] 25)) φ1 i1.fz (ht.mono le1) (s.mono le1) hn hm hg (se.mono le1) hne hme hge hP
  try rw [hP.out] at C00
  have C0 := Lib.hid C00
  clear C00
  have nd3 := sl.len
  rw [hl.out] at nd3
  replace ht := Lib.hid (ht.mono le1)
  replace hpw := Lib.hid (hpw.mono le1)
  clear i1 le1 k1
  go_enter Tryd.func14, Tryd.ntmps14
  go_wp2_with fail
  clear p0 p1
  generalize hbp : w.heap.size = bp at *
  replace hbp := Lib.hid hbp
  refine C0.out.mono ?_
  rintro e w1 ⟨rfl, hb1⟩
  have H1 : Hid (Inv bp w φ φ1 w1) := Lib.hid (by first | exact H0.out.callB hb1 | (rw [← hbp.out]; exact H0.out.callB hb1) | (have := H0.out.callB hb1; rw [hbp.out] at this; exact this))
  clear hb1 H0 C0
  by_cases hp : P = 0
  case neg =>
    have hpp : (P != 0) = true := by simp [hp]
    have HF : Hid (F = P) := Lib.hid (by rw [← hF.out, recdF, hP.out, if_pos hp])
    have HO : Hid (r = []) := Lib.hid (by rw [← hr.out, recdR, HF.out, if_neg hp])
    clear hp
    go_wp2
    go_ret2
    obtain rfl := HF.out
    obtain rfl := HO.out
    exact ⟨φ1, none, 0, rfl, by first | exact H1.out | (rw [hbp.out]; exact H1.out), SlV.empty _⟩
  subst hp
  obtain ⟨D, hD⟩ : ∃ D, Hid (dataF l = D) := ⟨_, Lib.hid rfl⟩
  have HF1 : Hid (F = D) := Lib.hid (by rw [← hF.out, recdF, hP.out, if_neg (by simp), hD.out])
  go_wp2_with fail
  refine (RcheckData_any nd ad cd l w1 φ1 H1.out.fz ht.out (sl.mono LE1.out) hl nd3 hgl hD).mono ?_
  rintro e w2 ⟨rfl, hb2⟩
  have H2 := Lib.hid (H1.out.callB hb2)
  clear hb2 H1
  by_cases hz : D = 0
  case neg =>
    have hzz : (D != 0) = true := by simp [hz]
    have HO : Hid (r = []) := Lib.hid (by rw [← hr.out, recdR, HF1.out, if_neg hz])
    clear hz
    go_wp2
    go_ret2
    obtain rfl := HF1.out
    obtain rfl := HO.out
    exact ⟨φ1, none, 0, rfl, by first | exact H2.out | (rw [hbp.out]; exact H2.out), SlV.empty _⟩
  subst hz
  have HO : Hid (r = recO fs l n) := Lib.hid (by rw [← hr.out, recdR, HF1.out, if_pos rfl, hn.out])
  have OK := planF_zero hP.out
  rw [hn.out] at OK
  have hn12 := OK.pos.2
  have p0 : w2.cell? ⟨bp, 0, none⟩ = some (.slice a n cap) := (HBX.out w2 H2.out.fz).cell 0
  have p1 : w2.cell? ⟨bp, 1, none⟩ = some (.slice ae m ce) := (HBX.out w2 H2.out.fz).cell 1
  clear OK
  go_wp2_with fail
  clear p0 p1
  refine (Rrecord_any n hn12 a cap fs m ae ce w2 φ1 H2.out.fz (s.mono LE1.out) hn nd ad cd l (sl.mono LE1.out) hl).mono ?_
  rintro e w3 ⟨φ3, a3, c3, rfl, hi3, s3⟩
  have H3 := Lib.hid (H2.out.call hi3)
  have S3 := Lib.hid s3
  clear hi3 s3
  go_wp2
  go_ret2
  obtain rfl := HF1.out
  obtain rfl := HO.out
  exact ⟨φ3, a3, c3, rfl, by first | exact H3.out | (rw [hbp.out]; exact H3.out), S3.out⟩
end Go.Proofs.YtkfmadeeobalaaaDoor
