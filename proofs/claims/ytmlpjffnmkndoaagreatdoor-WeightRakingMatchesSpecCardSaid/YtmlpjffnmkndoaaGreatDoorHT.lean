/- The law WeightBasesMatchSpec's walk. Conditions: the library's table of powers of ten reads as it was laid. The walks of the program's CheckPeople and what it calls. The plain law of Sums; the walk of the program's Sums. Conditions: the library's table of powers of ten reads as it was laid. The walk of the reference's Sums. Conditions: the library's tables of blanks and of powers of ten read as they were laid. The walks of sameMargin, slices.EqualFunc and the law WeightPeopleMatchSpec. Conditions: the library's tables of blanks and of powers of ten read as they were laid. Conditions: none beyond what the claim form gives. -/
import Derived.Test.YtmlpjffnmkndoaaGreatDoorJ3
import Derived.Test.YtmlpjffnmkndoaaGreatDoorNC
import Derived.Laws.StructEq
import Derived.Test.YtmlpjffnmkndoaaGreatDoorHA
import Derived.Test.YtmlpjffnmkndoaaGreatDoorJA
import Derived.Test.YtmlpjffnmkndoaaGreatDoorHS
import Derived.Test.YtmlpjffnmkndoaaGreatDoorJP
import Derived.Outline
import Derived.Test.YtmlpjffnmkndoaaGreatDoorHR
import Derived.Test.YtmlpjffnmkndoaaGreatDoorJ19
namespace Go.Proofs.YtmlpjffnmkndoaaGreatDoor
open Go.RowKit
set_option linter.unusedVariables false
set_option linter.unusedSimpArgs false
theorem neqR (w : World) (s t : ByteArray) : (binOp .neq 32 (.agg #[.string s, .string t]) (.agg #[.string s, .string t])).run Tryz.prog w = .ok (.bool false) w := by
 have hu := Tryz.underlying32
 rw [run_neq_struct, run_equalIn_agg w 9999 _ _ _ (by simp only [Program.fieldsOf, hu]) (by kernel_rfl)]
 simp only [Program.fieldsOf, hu]
 have hi := Tryz.underlying9
 simp [Op.eqFields, part, Program.cellsOf, run_equalIn_string w _ 9 _ _ hi, Result.andThen]
set_option maxHeartbeats 1000000 in
theorem EqualR_same (n : Nat) (a1 : Option Addr) (c1 : Nat) (xs : List Rti) (a2 : Option Addr) (c2 : Nat) (w : World) (φ : Phi) (hφ : Fz φ w) (s1 : SlV φ a1 c1 xs) (hn1 : Hid (xs.length = n)) (hm1 : n ≤ 9223372036854775807) (s2 : SlV φ a2 c2 xs) :
  Calls Tryz.prog 27 #[.slice a1 n c1, .slice a2 n c2] w (fun e w' => e = .returned (.bool true) ∧ Below w.heap.size w w') := by
 have hb1 : ((n : Int) != n) = false := by simp
 go_enter Tryz.func27, Tryz.ntmps27
 go_wp2
 clear hb1
 go_loopw [13] (fun i wr => ∃ k : Nat, k ≤ n ∧ i = .int .i64 k ∧ Hid (Below w.heap.size w wr)) (fun i _ => n - (intOf i).toNat)
 case atStart => exact ⟨0, Nat.zero_le _, rfl, Lib.hid (Below.refl _ _)⟩
 case round =>
  obtain ⟨k, hk, rfl, hB⟩ := hrel
  by_cases hlt : k < n
  ·obtain ⟨b1, o1, rfl, f1⟩ := s1.rtisD hn1 hlt
   obtain ⟨d1, d2⟩ := f1 k hlt wr (hφ.below hB.out)
   obtain ⟨b2, o2, rfl, f2⟩ := s2.rtisD hn1 hlt
   obtain ⟨e1, e2⟩ := f2 k hlt wr (hφ.below hB.out)
   clear f1 f2
   have hi1 : (k : Int) < n := by omega
   generalize (xs.getD k rti0).1 = x at *
   generalize (xs.getD k rti0).2 = y at *
   have hgd : Tryz.prog.eqGuardType Tryz.prog.depth 32 = false := by kernel_rfl
   have hneq := fun w => neqR w x y
   go_wp2_with fail
   go_quiet (fail)
   go_wp2
   go_roundw
   case rel => exact ⟨k + 1, by omega, by go_num, Lib.hid (bdrewN hB.out _)⟩
   case measure => (simp [intOf] <;> omega)
  ·obtain rfl : k = n := by omega
   go_wp2
   go_ret
   exact ⟨rfl, hB.out⟩
theorem rRti (H : Type) (enc : TypeId × Value → H) (W : World) : Reads enc Tryz.prog W 32 Rti (fun x => StrG x.1 ∧ StrG x.2) :=
 Reads.struct2 (s1 := 1) (s2 := 1) Tryz.underlying32 (by kernel_rfl) (by kernel_rfl) (by kernel_rfl) (by kernel_rfl) (by kernel_rfl) (rStr H enc W) (rStr H enc W)
end Go.Proofs.YtmlpjffnmkndoaaGreatDoor

namespace Go.Proofs.YtmlpjffnmkndoaaGreatDoor
open Go.RowKit
set_option linter.unusedVariables false
set_option linter.unusedSimpArgs false
set_option maxHeartbeats 2000000 in
theorem cellsM_any {mm : List Mgn} {nm cm : Nat} {am : Option Addr} {bm : Nat} {l : List Int} {n : Nat} {a : Option Addr} {c : Nat} {w : World} {φ : Phi} (hφ : Fz φ w) (sm : SlV φ am cm mm) (hnm : Hid (mm.length = nm)) (em : φ bm = some (.cells #[.slice am nm cm] 22)) (s : SlV φ a c l) (hn : Hid (l.length = n)) (hm : n ≤ 9223372036854775807) {f : Int} (hf : Hid (celM mm l = f)) :
  Calls Tryz.prog 65 #[.slice a n c, .pointer (some ⟨bm, 0, none⟩)] w (fun e w' => e = .returned (.int .i64 f) ∧ w = w') := by
 have hml : nm ≤ 9223372036854775807 := by have h1 := sm.capn; have h2 := sm.capm; rw [hnm.out] at h1; unfold maxLen at h2; omega
 have u0 : w.cell? ⟨bm, 0, none⟩ = some (.slice am nm cm) := box_cell em φ.le_refl hφ 0
 have HSM := Lib.hid sm
 have HS := Lib.hid s
 clear sm s em
 by_cases hnn : n = nm
 case neg =>
  have h8i : ((n : Int) == (nm : Int)) = false := by simp; omega
  have h8j : ((n : Int) != (nm : Int)) = true := by simp; omega
  have hq : Hid (f = 3) := Lib.hid (by rw [← hf.out]; unfold celM; rw [if_pos (by rw [hn.out, hnm.out]; exact hnn)])
  clear hnn
  go_enter Tryz.func65, Tryz.ntmps65
  go_wp2
  go_ret
  exact ⟨ret_int hq.out.symm, rfl⟩
 case pos =>
  subst hnn
  go_enter Tryz.func65, Tryz.ntmps65
  go_wp2
  go_loop [13] (fun v => ∃ k : Nat, k ≤ n ∧ v = .int .i64 (k : Int) ∧ Hid (∀ i, i < k → (if outB (l.getD i 0) 0 (((mm.getD i mgn0).2.length : Int) - 1) then 1 else 0 : Int) = 0)) (fun v => n - (intOf v).toNat)
  case atStart => exact ⟨0, Nat.zero_le _, rfl, none_yet _⟩
  case round =>
   obtain ⟨k, hk, rfl, hok⟩ := hrel
   by_cases hlt : k < n
   ·have hlti : (k : Int) < (n : Int) := by omega
    obtain ⟨b, off, rfl, fc⟩ := HS.out.intsD hn hlt
    have d1 := (fc k hlt w hφ).2
    obtain ⟨b2, off2, rfl, fm⟩ := HSM.out.mgnsD hnm hlt
    obtain ⟨at_, ct_, sk, f2⟩ := fm k hlt
    obtain ⟨c1, c2⟩ := f2 w hφ
    have hcm := sk.capm
    have hcn := sk.capn
    obtain ⟨nt, hnt⟩ : ∃ x, (mm.getD k mgn0).2.length = x := ⟨_, rfl⟩
    rw [hnt] at c2 hcn
    have hntl : (nt : Int) ≤ 9223372036854775807 := by unfold maxLen at hcm; omega
    obtain ⟨o, ho⟩ : ∃ o, Hid (outB (l.getD k 0) 0 ((nt : Int) - 1) = o) := ⟨_, Lib.hid rfl⟩
    have hst := Lib.hid (fun (e : o = true) => celM_stop hn.out hnm.out hlt hok.out (by rw [hnt, ho.out]; exact e))
    have hnx := Lib.hid (fun (e : o = false) => next_ok hok (by rw [hnt, ho.out, e]; rfl))
    clear fc fm f2 sk hcm hcn hnt c1
    generalize l.getD k 0 = x at *
    cases o
    ·have hn2 := hnx.out rfl
     clear hnx hst
     go_wp2_with (go_at_call 29; (with_reducible refine (outW _ _ _ _ ho).mono ?_); rintro e w' ⟨rfl, rfl⟩)
     go_round
     case rel => exact ⟨k + 1, by omega, by go_num, hn2⟩
     case measure => (simp [intOf] <;> omega)
    ·have hq : Hid (f = 1) := Lib.hid (by rw [← hf.out]; exact hst.out rfl)
     clear hnx hst
     go_wp2_with (go_at_call 29; (with_reducible refine (outW _ _ _ _ ho).mono ?_); rintro e w' ⟨rfl, rfl⟩)
     go_ret
     exact ⟨ret_int hq.out.symm, rfl⟩
   ·have hkn : n = k := by omega
    subst hkn
    have hq : Hid (f = 0) := Lib.hid (by rw [← hf.out]; exact celM_zero hn.out hnm.out hok.out)
    go_wp2
    go_ret
    exact ⟨ret_int hq.out.symm, rfl⟩
set_option maxRecDepth 100000 in
set_option maxHeartbeats 2000000 in
theorem personM_any {M : Nat} (hD : Hid (DivOk M)) (hM2 : p10 2000 ≤ M) {mm : List Mgn} {nm cm : Nat} {am : Option Addr} {bm : Nat} {s t : ByteArray} {cl : List Int} {m : Nat} {ar : Option Addr} {cr : Nat} {x y z : Int} {w : World} {φ : Phi} (hφ : Fz φ w) (sm : SlV φ am cm mm) (hnm : Hid (mm.length = nm)) (em : φ bm = some (.cells #[.slice am nm cm] 22)) (sc : SlV φ ar cr cl) (hcn : Hid (cl.length = m)) (hs : s.size ≤ 9223372036854775807) (ht : t.size ≤ 9223372036854775807) {f : Int} (hf : Hid (psmF mm ((s, t), cl, x, y, z) = f)) :
  Calls Tryz.prog 113 #[.agg #[.string s, .string t, .slice ar m cr, .int .i64 x, .int .i64 y, .int .i64 z], .func (.func 65) #[] #[.pointer (some ⟨bm, 0, none⟩)]] w (fun e w' => e = .returned (.int .i64 f) ∧ Below w.heap.size w w') := by
 have HM2 := Lib.hid hM2
 have HSM := Lib.hid sm
 have HEM := Lib.hid em
 have hm9 : m ≤ 9223372036854775807 := by have h1 := sc.capn; have h2 := sc.capm; rw [hcn.out] at h1; unfold maxLen at h2; omega
 have HSC := Lib.hid sc
 have HI := Lib.hid ((Inv.start hφ).alloc (.cells #[.string s, .string t, .slice ar m cr, .int .i64 x, .int .i64 y, .int .i64 z] 76))
 have HK := Lib.hid (Blk.new w #[.string s, .string t, .slice ar m cr, .int .i64 x, .int .i64 y, .int .i64 z] 76)
 have hq := hf.out
 unfold psmF wgtF at hq
 dsimp only at hq
 obtain ⟨g, hg⟩ : ∃ g, Hid (shoF s t = g) := ⟨_, Lib.hid rfl⟩
 obtain ⟨cf, hcf⟩ : ∃ g, Hid (celM mm cl = g) := ⟨_, Lib.hid rfl⟩
 obtain ⟨o1, ho1⟩ : ∃ g, Hid (outB x 0 200 = g) := ⟨_, Lib.hid rfl⟩
 obtain ⟨o2, ho2⟩ : ∃ g, Hid (outB y 0 200 = g) := ⟨_, Lib.hid rfl⟩
 obtain ⟨o3, ho3⟩ : ∃ g, Hid (outB z 0 200 = g) := ⟨_, Lib.hid rfl⟩
 obtain ⟨r, hr⟩ : ∃ r, Hid (ratX s t = r) := ⟨_, Lib.hid rfl⟩
 unfold numF at hq
 rw [hg.out, hcf.out, ho1.out, ho2.out, ho3.out, hr.out] at hq
 clear hM2 hφ sc hf sm em
 go_enter Tryz.func113, Tryz.ntmps113
 go_upto_region 1 with fail
 generalize w.alloc (.cells #[.string s, .string t, .slice ar m cr, .int .i64 x, .int .i64 y, .int .i64 z] 76) = wx at *
 obtain ⟨bx, hbx⟩ : ∃ b, w.heap.size = b := ⟨_, rfl⟩
 rw [hbx] at HK ⊢
 have HBX := Lib.hid hbx
 clear hbx
 have x0 : wx.cell? ⟨bx, 0, none⟩ = some (.string s) := HK.out.cell 0
 have x1 : wx.cell? ⟨bx, 1, none⟩ = some (.string t) := HK.out.cell 1
 by_cases hg0 : g = 0
 ·subst hg0
  have hrf := Lib.hid (shoF_ok hg.out).1
  have hC := Lib.hid (fun W (hf : Fz φ W) => FracOf_any hD HM2.out hs ht hrf hf)
  obtain ⟨N, hNe⟩ : ∃ N, dV (bodyB s).data.toList = N := ⟨_, rfl⟩
  obtain ⟨Dn, hDe⟩ : ∃ N, dV t.data.toList = N := ⟨_, rfl⟩
  rw [hr.out, hNe, hDe] at hC
  obtain ⟨q1, hq1⟩ : ∃ q, Hid (sgI r = q) := ⟨_, Lib.hid rfl⟩
  have e1 := sgI_le (x := r)
  rw [hq1.out] at e1
  rw [if_neg (by simp : ¬ (0 : Int) ≠ 0)] at hq
  clear hNe hDe
  by_cases hr0 : r ≤ 0
  ·have hq0 : q1 ≤ 0 := e1.2 hr0
   rw [if_pos hr0, if_pos (by decide)] at hq
   have HQ := Lib.hid hq
   clear hq e1 hr0
   go_wp2_with (first
    | (go_at_call 87; (with_reducible refine (Short_any hD HM2.out hs ht hg HI.out.fz).mono ?_); rintro e w2 ⟨rfl, hb2⟩; have I2 := Lib.hid (HI.out.callB hb2); have K2 := Lib.hid (HK.out.callB hb2); have y0 : w2.cell? ⟨bx, 0, none⟩ = some (.string s) := K2.out.cell 0; have y1 : w2.cell? ⟨bx, 1, none⟩ = some (.string t) := K2.out.cell 1; clear hb2)
    | (go_at_call 42; (with_reducible refine (hC.out _ I2.out.fz).mono ?_); rintro e w3 ⟨v3, φ3, rfl, hi3, hv3⟩; obtain ⟨g3, n3, m3, k3, k4, a3, c3, a4, c4, rfl, _⟩ := hv3.open; have I3 := Lib.hid (I2.out.callB hi3.bel); have F3 := Lib.hid hi3.fz; have V3 := Lib.hid hv3; have K3 := Lib.hid (K2.out.callB hi3.bel); clear hi3 hv3)
    | (go_at_call 76; (with_reducible refine (Sign_any F3.out V3.out hq1).mono ?_); rintro e w4 ⟨rfl, hb4⟩; have I4 := Lib.hid (I3.out.callB hb4); have K4 := Lib.hid (K3.out.callB hb4); have z2 : w4.cell? ⟨bx, 2, none⟩ = some (.slice ar m cr) := K4.out.cell 2; have z3 : w4.cell? ⟨bx, 3, none⟩ = some (.int .i64 x) := K4.out.cell 3; have z4 : w4.cell? ⟨bx, 4, none⟩ = some (.int .i64 y) := K4.out.cell 4; have z5 : w4.cell? ⟨bx, 5, none⟩ = some (.int .i64 z) := K4.out.cell 5; clear hb4)
    | (go_at_call 65; (with_reducible refine (cellsM_any I4.out.fz HSM.out hnm HEM.out HSC.out hcn hm9 hcf).mono ?_); rintro e w' ⟨rfl, rfl⟩)
    | (go_at_call 29; (with_reducible refine (outW _ _ _ _ ho1).mono ?_); rintro e w' ⟨rfl, rfl⟩)
    | (go_at_call 29; (with_reducible refine (outW _ _ _ _ ho2).mono ?_); rintro e w' ⟨rfl, rfl⟩)
    | (go_at_call 29; (with_reducible refine (outW _ _ _ _ ho3).mono ?_); rintro e w' ⟨rfl, rfl⟩))
   go_ret
   exact ⟨ret_int HQ.out, I4.out.bel⟩
  ·have hq0 : ¬ q1 ≤ 0 := fun h => hr0 (e1.1 h)
   rw [if_neg hr0, if_neg (by simp)] at hq
   clear e1 hr0
   by_cases hc0 : cf = 0
   ·subst hc0
    rw [if_neg (by simp)] at hq
    cases o1
    ·cases o2
     ·cases o3
      ·have HQ : Hid ((0 : Int) = f) := Lib.hid hq
       clear hq
       go_wp2_with (first
        | (go_at_call 87; (with_reducible refine (Short_any hD HM2.out hs ht hg HI.out.fz).mono ?_); rintro e w2 ⟨rfl, hb2⟩; have I2 := Lib.hid (HI.out.callB hb2); have K2 := Lib.hid (HK.out.callB hb2); have y0 : w2.cell? ⟨bx, 0, none⟩ = some (.string s) := K2.out.cell 0; have y1 : w2.cell? ⟨bx, 1, none⟩ = some (.string t) := K2.out.cell 1; clear hb2)
        | (go_at_call 42; (with_reducible refine (hC.out _ I2.out.fz).mono ?_); rintro e w3 ⟨v3, φ3, rfl, hi3, hv3⟩; obtain ⟨g3, n3, m3, k3, k4, a3, c3, a4, c4, rfl, _⟩ := hv3.open; have I3 := Lib.hid (I2.out.callB hi3.bel); have F3 := Lib.hid hi3.fz; have V3 := Lib.hid hv3; have K3 := Lib.hid (K2.out.callB hi3.bel); clear hi3 hv3)
        | (go_at_call 76; (with_reducible refine (Sign_any F3.out V3.out hq1).mono ?_); rintro e w4 ⟨rfl, hb4⟩; have I4 := Lib.hid (I3.out.callB hb4); have K4 := Lib.hid (K3.out.callB hb4); have z2 : w4.cell? ⟨bx, 2, none⟩ = some (.slice ar m cr) := K4.out.cell 2; have z3 : w4.cell? ⟨bx, 3, none⟩ = some (.int .i64 x) := K4.out.cell 3; have z4 : w4.cell? ⟨bx, 4, none⟩ = some (.int .i64 y) := K4.out.cell 4; have z5 : w4.cell? ⟨bx, 5, none⟩ = some (.int .i64 z) := K4.out.cell 5; clear hb4)
        | (go_at_call 65; (with_reducible refine (cellsM_any I4.out.fz HSM.out hnm HEM.out HSC.out hcn hm9 hcf).mono ?_); rintro e w' ⟨rfl, rfl⟩)
        | (go_at_call 29; (with_reducible refine (outW _ _ _ _ ho1).mono ?_); rintro e w' ⟨rfl, rfl⟩)
        | (go_at_call 29; (with_reducible refine (outW _ _ _ _ ho2).mono ?_); rintro e w' ⟨rfl, rfl⟩)
        | (go_at_call 29; (with_reducible refine (outW _ _ _ _ ho3).mono ?_); rintro e w' ⟨rfl, rfl⟩))
       go_ret
       exact ⟨ret_int HQ.out, I4.out.bel⟩
      ·have HQ : Hid ((1 : Int) = f) := Lib.hid hq
       clear hq
       go_wp2_with (first
        | (go_at_call 87; (with_reducible refine (Short_any hD HM2.out hs ht hg HI.out.fz).mono ?_); rintro e w2 ⟨rfl, hb2⟩; have I2 := Lib.hid (HI.out.callB hb2); have K2 := Lib.hid (HK.out.callB hb2); have y0 : w2.cell? ⟨bx, 0, none⟩ = some (.string s) := K2.out.cell 0; have y1 : w2.cell? ⟨bx, 1, none⟩ = some (.string t) := K2.out.cell 1; clear hb2)
        | (go_at_call 42; (with_reducible refine (hC.out _ I2.out.fz).mono ?_); rintro e w3 ⟨v3, φ3, rfl, hi3, hv3⟩; obtain ⟨g3, n3, m3, k3, k4, a3, c3, a4, c4, rfl, _⟩ := hv3.open; have I3 := Lib.hid (I2.out.callB hi3.bel); have F3 := Lib.hid hi3.fz; have V3 := Lib.hid hv3; have K3 := Lib.hid (K2.out.callB hi3.bel); clear hi3 hv3)
        | (go_at_call 76; (with_reducible refine (Sign_any F3.out V3.out hq1).mono ?_); rintro e w4 ⟨rfl, hb4⟩; have I4 := Lib.hid (I3.out.callB hb4); have K4 := Lib.hid (K3.out.callB hb4); have z2 : w4.cell? ⟨bx, 2, none⟩ = some (.slice ar m cr) := K4.out.cell 2; have z3 : w4.cell? ⟨bx, 3, none⟩ = some (.int .i64 x) := K4.out.cell 3; have z4 : w4.cell? ⟨bx, 4, none⟩ = some (.int .i64 y) := K4.out.cell 4; have z5 : w4.cell? ⟨bx, 5, none⟩ = some (.int .i64 z) := K4.out.cell 5; clear hb4)
        | (go_at_call 65; (with_reducible refine (cellsM_any I4.out.fz HSM.out hnm HEM.out HSC.out hcn hm9 hcf).mono ?_); rintro e w' ⟨rfl, rfl⟩)
        | (go_at_call 29; (with_reducible refine (outW _ _ _ _ ho1).mono ?_); rintro e w' ⟨rfl, rfl⟩)
        | (go_at_call 29; (with_reducible refine (outW _ _ _ _ ho2).mono ?_); rintro e w' ⟨rfl, rfl⟩)
        | (go_at_call 29; (with_reducible refine (outW _ _ _ _ ho3).mono ?_); rintro e w' ⟨rfl, rfl⟩))
       go_ret
       exact ⟨ret_int HQ.out, I4.out.bel⟩
     ·have HQ : Hid ((1 : Int) = f) := Lib.hid hq
      clear hq
      go_wp2_with (first
       | (go_at_call 87; (with_reducible refine (Short_any hD HM2.out hs ht hg HI.out.fz).mono ?_); rintro e w2 ⟨rfl, hb2⟩; have I2 := Lib.hid (HI.out.callB hb2); have K2 := Lib.hid (HK.out.callB hb2); have y0 : w2.cell? ⟨bx, 0, none⟩ = some (.string s) := K2.out.cell 0; have y1 : w2.cell? ⟨bx, 1, none⟩ = some (.string t) := K2.out.cell 1; clear hb2)
       | (go_at_call 42; (with_reducible refine (hC.out _ I2.out.fz).mono ?_); rintro e w3 ⟨v3, φ3, rfl, hi3, hv3⟩; obtain ⟨g3, n3, m3, k3, k4, a3, c3, a4, c4, rfl, _⟩ := hv3.open; have I3 := Lib.hid (I2.out.callB hi3.bel); have F3 := Lib.hid hi3.fz; have V3 := Lib.hid hv3; have K3 := Lib.hid (K2.out.callB hi3.bel); clear hi3 hv3)
       | (go_at_call 76; (with_reducible refine (Sign_any F3.out V3.out hq1).mono ?_); rintro e w4 ⟨rfl, hb4⟩; have I4 := Lib.hid (I3.out.callB hb4); have K4 := Lib.hid (K3.out.callB hb4); have z2 : w4.cell? ⟨bx, 2, none⟩ = some (.slice ar m cr) := K4.out.cell 2; have z3 : w4.cell? ⟨bx, 3, none⟩ = some (.int .i64 x) := K4.out.cell 3; have z4 : w4.cell? ⟨bx, 4, none⟩ = some (.int .i64 y) := K4.out.cell 4; have z5 : w4.cell? ⟨bx, 5, none⟩ = some (.int .i64 z) := K4.out.cell 5; clear hb4)
       | (go_at_call 65; (with_reducible refine (cellsM_any I4.out.fz HSM.out hnm HEM.out HSC.out hcn hm9 hcf).mono ?_); rintro e w' ⟨rfl, rfl⟩)
       | (go_at_call 29; (with_reducible refine (outW _ _ _ _ ho1).mono ?_); rintro e w' ⟨rfl, rfl⟩)
       | (go_at_call 29; (with_reducible refine (outW _ _ _ _ ho2).mono ?_); rintro e w' ⟨rfl, rfl⟩)
       | (go_at_call 29; (with_reducible refine (outW _ _ _ _ ho3).mono ?_); rintro e w' ⟨rfl, rfl⟩))
      go_ret
      exact ⟨ret_int HQ.out, I4.out.bel⟩
    ·have HQ : Hid ((1 : Int) = f) := Lib.hid hq
     clear hq
     go_wp2_with (first
      | (go_at_call 87; (with_reducible refine (Short_any hD HM2.out hs ht hg HI.out.fz).mono ?_); rintro e w2 ⟨rfl, hb2⟩; have I2 := Lib.hid (HI.out.callB hb2); have K2 := Lib.hid (HK.out.callB hb2); have y0 : w2.cell? ⟨bx, 0, none⟩ = some (.string s) := K2.out.cell 0; have y1 : w2.cell? ⟨bx, 1, none⟩ = some (.string t) := K2.out.cell 1; clear hb2)
      | (go_at_call 42; (with_reducible refine (hC.out _ I2.out.fz).mono ?_); rintro e w3 ⟨v3, φ3, rfl, hi3, hv3⟩; obtain ⟨g3, n3, m3, k3, k4, a3, c3, a4, c4, rfl, _⟩ := hv3.open; have I3 := Lib.hid (I2.out.callB hi3.bel); have F3 := Lib.hid hi3.fz; have V3 := Lib.hid hv3; have K3 := Lib.hid (K2.out.callB hi3.bel); clear hi3 hv3)
      | (go_at_call 76; (with_reducible refine (Sign_any F3.out V3.out hq1).mono ?_); rintro e w4 ⟨rfl, hb4⟩; have I4 := Lib.hid (I3.out.callB hb4); have K4 := Lib.hid (K3.out.callB hb4); have z2 : w4.cell? ⟨bx, 2, none⟩ = some (.slice ar m cr) := K4.out.cell 2; have z3 : w4.cell? ⟨bx, 3, none⟩ = some (.int .i64 x) := K4.out.cell 3; have z4 : w4.cell? ⟨bx, 4, none⟩ = some (.int .i64 y) := K4.out.cell 4; have z5 : w4.cell? ⟨bx, 5, none⟩ = some (.int .i64 z) := K4.out.cell 5; clear hb4)
      | (go_at_call 65; (with_reducible refine (cellsM_any I4.out.fz HSM.out hnm HEM.out HSC.out hcn hm9 hcf).mono ?_); rintro e w' ⟨rfl, rfl⟩)
      | (go_at_call 29; (with_reducible refine (outW _ _ _ _ ho1).mono ?_); rintro e w' ⟨rfl, rfl⟩)
      | (go_at_call 29; (with_reducible refine (outW _ _ _ _ ho2).mono ?_); rintro e w' ⟨rfl, rfl⟩)
      | (go_at_call 29; (with_reducible refine (outW _ _ _ _ ho3).mono ?_); rintro e w' ⟨rfl, rfl⟩))
     go_ret
     exact ⟨ret_int HQ.out, I4.out.bel⟩
   ·rw [if_pos hc0] at hq
    have hc1 : (cf == 0) = false := by simp [hc0]
    have hc2 : (cf != 0) = true := by simp [hc0]
    have HQ := Lib.hid hq
    clear hq hc0
    go_wp2_with (first
     | (go_at_call 87; (with_reducible refine (Short_any hD HM2.out hs ht hg HI.out.fz).mono ?_); rintro e w2 ⟨rfl, hb2⟩; have I2 := Lib.hid (HI.out.callB hb2); have K2 := Lib.hid (HK.out.callB hb2); have y0 : w2.cell? ⟨bx, 0, none⟩ = some (.string s) := K2.out.cell 0; have y1 : w2.cell? ⟨bx, 1, none⟩ = some (.string t) := K2.out.cell 1; clear hb2)
     | (go_at_call 42; (with_reducible refine (hC.out _ I2.out.fz).mono ?_); rintro e w3 ⟨v3, φ3, rfl, hi3, hv3⟩; obtain ⟨g3, n3, m3, k3, k4, a3, c3, a4, c4, rfl, _⟩ := hv3.open; have I3 := Lib.hid (I2.out.callB hi3.bel); have F3 := Lib.hid hi3.fz; have V3 := Lib.hid hv3; have K3 := Lib.hid (K2.out.callB hi3.bel); clear hi3 hv3)
     | (go_at_call 76; (with_reducible refine (Sign_any F3.out V3.out hq1).mono ?_); rintro e w4 ⟨rfl, hb4⟩; have I4 := Lib.hid (I3.out.callB hb4); have K4 := Lib.hid (K3.out.callB hb4); have z2 : w4.cell? ⟨bx, 2, none⟩ = some (.slice ar m cr) := K4.out.cell 2; have z3 : w4.cell? ⟨bx, 3, none⟩ = some (.int .i64 x) := K4.out.cell 3; have z4 : w4.cell? ⟨bx, 4, none⟩ = some (.int .i64 y) := K4.out.cell 4; have z5 : w4.cell? ⟨bx, 5, none⟩ = some (.int .i64 z) := K4.out.cell 5; clear hb4)
     | (go_at_call 65; (with_reducible refine (cellsM_any I4.out.fz HSM.out hnm HEM.out HSC.out hcn hm9 hcf).mono ?_); rintro e w' ⟨rfl, rfl⟩)
     | (go_at_call 29; (with_reducible refine (outW _ _ _ _ ho1).mono ?_); rintro e w' ⟨rfl, rfl⟩)
     | (go_at_call 29; (with_reducible refine (outW _ _ _ _ ho2).mono ?_); rintro e w' ⟨rfl, rfl⟩)
     | (go_at_call 29; (with_reducible refine (outW _ _ _ _ ho3).mono ?_); rintro e w' ⟨rfl, rfl⟩))
    go_ret
    exact ⟨ret_int HQ.out, I4.out.bel⟩
 ·rw [if_pos hg0, if_pos hg0] at hq
  have h0i : (g == 0) = false := by simp [hg0]
  have h0j : (g != 0) = true := by simp [hg0]
  have HQ := Lib.hid hq
  clear hq hg0
  go_wp2_with (first
   | (go_at_call 87; (with_reducible refine (Short_any hD HM2.out hs ht hg HI.out.fz).mono ?_); rintro e w2 ⟨rfl, hb2⟩; have I2 := Lib.hid (HI.out.callB hb2); have K2 := Lib.hid (HK.out.callB hb2); have y0 : w2.cell? ⟨bx, 0, none⟩ = some (.string s) := K2.out.cell 0; have y1 : w2.cell? ⟨bx, 1, none⟩ = some (.string t) := K2.out.cell 1; clear hb2)
   | (go_at_call 42; (with_reducible refine (hC.out _ I2.out.fz).mono ?_); rintro e w3 ⟨v3, φ3, rfl, hi3, hv3⟩; obtain ⟨g3, n3, m3, k3, k4, a3, c3, a4, c4, rfl, _⟩ := hv3.open; have I3 := Lib.hid (I2.out.callB hi3.bel); have F3 := Lib.hid hi3.fz; have V3 := Lib.hid hv3; have K3 := Lib.hid (K2.out.callB hi3.bel); clear hi3 hv3)
   | (go_at_call 76; (with_reducible refine (Sign_any F3.out V3.out hq1).mono ?_); rintro e w4 ⟨rfl, hb4⟩; have I4 := Lib.hid (I3.out.callB hb4); have K4 := Lib.hid (K3.out.callB hb4); have z2 : w4.cell? ⟨bx, 2, none⟩ = some (.slice ar m cr) := K4.out.cell 2; have z3 : w4.cell? ⟨bx, 3, none⟩ = some (.int .i64 x) := K4.out.cell 3; have z4 : w4.cell? ⟨bx, 4, none⟩ = some (.int .i64 y) := K4.out.cell 4; have z5 : w4.cell? ⟨bx, 5, none⟩ = some (.int .i64 z) := K4.out.cell 5; clear hb4)
   | (go_at_call 65; (with_reducible refine (cellsM_any I4.out.fz HSM.out hnm HEM.out HSC.out hcn hm9 hcf).mono ?_); rintro e w' ⟨rfl, rfl⟩)
   | (go_at_call 29; (with_reducible refine (outW _ _ _ _ ho1).mono ?_); rintro e w' ⟨rfl, rfl⟩)
   | (go_at_call 29; (with_reducible refine (outW _ _ _ _ ho2).mono ?_); rintro e w' ⟨rfl, rfl⟩)
   | (go_at_call 29; (with_reducible refine (outW _ _ _ _ ho3).mono ?_); rintro e w' ⟨rfl, rfl⟩))
  go_ret
  exact ⟨ret_int HQ.out, I2.out.bel⟩
set_option maxRecDepth 100000 in
set_option maxHeartbeats 4000000 in
theorem listM_any {M : Nat} (hD : Hid (DivOk M)) (hM2 : p10 2000 ≤ M) {mm : List Mgn} {nm cm : Nat} {am : Option Addr} {bm : Nat} {n : Nat} {a : Option Addr} {cap : Nat} {l : List Psn} {w : World} {φ : Phi} (hφ : Fz φ w) (sm : SlV φ am cm mm) (hnm : Hid (mm.length = nm)) (em : φ bm = some (.cells #[.slice am nm cm] 22)) (hm0 : Hid (mgsF mm = 0)) (sl : SlV φ a cap l) (hn : Hid (l.length = n)) (hsz : Hid (∀ p ∈ l, PsnG p)) {f : Int} (hf : Hid (ppmF mm l = f)) :
  Calls Tryz.prog 64 #[.slice a n cap, .func (.func 65) #[] #[.pointer (some ⟨bm, 0, none⟩)]] w (fun e w' => e = .returned (.int .i64 f) ∧ Below w.heap.size w w') := by
 have HM2 := Lib.hid hM2
 have hnl : n ≤ 9223372036854775807 := by have := sl.capn; have := sl.capm; rw [hn.out] at *; unfold maxLen at *; omega
 have hS0 : Hid (Inv w.heap.size w φ φ w) := Lib.hid (Inv.start hφ)
 have HSM := Lib.hid sm
 have HEM := Lib.hid em
 have HSL := Lib.hid sl
 clear hM2 hφ sm em sl
 by_cases h3 : 3000 < n
 ·have h3i : (3000 : Int) < (n : Int) := by omega
  have hq : Hid (f = 2) := Lib.hid (by rw [← hf.out]; exact ppmF_large hm0.out (by rw [hn.out]; exact h3))
  clear h3
  go_enter Tryz.func64, Tryz.ntmps64
  go_wp2
  go_ret
  exact ⟨ret_int hq.out.symm, hS0.out.bel⟩
 have h3i : ¬ (3000 : Int) < (n : Int) := by omega
 have h3n : n ≤ 3000 := by omega
 clear h3
 go_enter Tryz.func64, Tryz.ntmps64
 go_wp2
 go_loopw [13] (fun iv wr => ∃ (k : Nat), k ≤ n ∧ iv = .int .i64 (k : Int) ∧ Hid (∀ i, i < k → psmF mm (l.getD i psn0) = 0) ∧ Hid (Inv w.heap.size w φ φ wr)) (fun iv _ => n - (intOf iv).toNat)
 case atStart => exact ⟨0, Nat.zero_le _, rfl, none_yet _, hS0⟩
 case round =>
  clear hS0
  obtain ⟨k, hk, rfl, hok, hS⟩ := hrel
  by_cases hlt : k < n
  ·have hlti : (k : Int) < (n : Int) := by omega
   obtain ⟨b, off, rfl, fc⟩ := HSL.out.psnsD hn hlt
   obtain ⟨ar, cr, sc, f2⟩ := fc k hlt
   obtain ⟨d0, d1, d2, d3, d4, d5⟩ := f2 wr hS.out.fz
   have hm : l.getD k psn0 ∈ l := by rw [getD_elem0 _ _ _ (by rw [hn.out]; exact hlt)]; exact List.getElem_mem _
   obtain ⟨p, hp⟩ : ∃ p, l.getD k psn0 = p := ⟨_, rfl⟩
   rw [hp] at hm d0 d1 d2 d3 d4 d5 sc
   have hg := hsz.out p hm
   obtain ⟨q, hq⟩ : ∃ q, Hid (psmF mm p = q) := ⟨_, Lib.hid rfl⟩
   have hst := Lib.hid (fun (e : q ≠ 0) => ppmF_stop hm0.out hn.out h3n hlt hok.out (by rw [hp]; exact hq.out) e)
   have hnx := Lib.hid (fun (e : q = 0) => next_ok (f := fun i => psmF mm (l.getD i psn0)) hok (by show psmF mm (l.getD k psn0) = 0; rw [hp, hq.out, e]))
   obtain ⟨⟨s, t⟩, cl, x, y, z⟩ := p
   have hs : s.size ≤ 9223372036854775807 := hg.1
   have ht : t.size ≤ 9223372036854775807 := hg.2
   dsimp only at d0 d1 d2 d3 d4 d5 sc
   obtain ⟨m, hm9⟩ : ∃ m, cl.length = m := ⟨_, rfl⟩
   rw [hm9] at d2
   have hcn := Lib.hid hm9
   have HSC := Lib.hid sc
   have hS1 := Lib.hid (hS.out.alloc (.cells #[.string s, .string t, .slice ar m cr, .int .i64 x, .int .i64 y, .int .i64 z] 76))
   clear fc f2 hm hg hp hm9 sc hS
   by_cases hq0 : q = 0
   ·subst hq0
    have hn2 := hnx.out rfl
    clear hnx hst
    go_wp2_with (go_at_call 113; (with_reducible refine (personM_any hD HM2.out hS1.out.fz HSM.out hnm HEM.out HSC.out hcn hs ht hq).mono ?_); rintro e w2 ⟨rfl, hb2⟩; have hS2 := Lib.hid (hS1.out.callB hb2); clear hb2)
    go_roundw
    case rel => exact ⟨k + 1, by omega, by go_num, hn2, hS2⟩
    case measure => (simp [intOf] <;> omega)
   ·have hE : Hid (q = f) := Lib.hid (by rw [← hf.out]; exact (hst.out hq0).symm)
    have h0i : (q == 0) = false := by simp [hq0]
    have h0j : (q != 0) = true := by simp [hq0]
    clear hnx hst hq0
    go_wp2_with (go_at_call 113; (with_reducible refine (personM_any hD HM2.out hS1.out.fz HSM.out hnm HEM.out HSC.out hcn hs ht hq).mono ?_); rintro e w2 ⟨rfl, hb2⟩; have hS2 := Lib.hid (hS1.out.callB hb2); clear hb2)
    go_ret
    exact ⟨ret_int hE.out, hS2.out.bel⟩
  ·obtain rfl : k = n := by omega
   have hE : Hid (f = 0) := Lib.hid (by rw [← hf.out]; exact ppmF_zero hm0.out hn.out h3n hok.out)
   go_wp2
   go_ret
   exact ⟨ret_int hE.out.symm, hS.out.bel⟩
set_option maxRecDepth 100000 in
set_option maxHeartbeats 4000000 in
theorem CheckPeople_any {M : Nat} (hD : Hid (DivOk M)) (hM : LenB M) (hM2 : p10 2000 ≤ M) {mm : List Mgn} {nm cm : Nat} {am : Option Addr} {n : Nat} {a : Option Addr} {cap : Nat} {l : List Psn} {w : World} {φ : Phi} (hφ : Fz φ w) (sm : SlV φ am cm mm) (hnm : Hid (mm.length = nm)) (hgm : Hid (∀ x ∈ mm, MgnG x)) (sl : SlV φ a cap l) (hn : Hid (l.length = n)) (hsz : Hid (∀ p ∈ l, PsnG p)) {f : Int} (hf : Hid (ppmF mm l = f)) :
  Calls Tryz.prog 22 #[.slice am nm cm, .slice a n cap] w (fun e w' => e = .returned (.int .i64 f) ∧ Below w.heap.size w w') := by
 have HM2 := Lib.hid hM2
 have hnl : n ≤ 9223372036854775807 := by have := sl.capn; have := sl.capm; rw [hn.out] at *; unfold maxLen at *; omega
 obtain ⟨φb, lb, ib, eb⟩ := (Inv.start hφ).frz (.cells #[.slice am nm cm] 22)
 have HI := Lib.hid ib
 have HEB := Lib.hid eb
 have HSM := Lib.hid (sm.mono lb)
 have HSL := Lib.hid (sl.mono lb)
 obtain ⟨fm, hfm⟩ : ∃ x, Hid (mgsF mm = x) := ⟨_, Lib.hid rfl⟩
 clear lb ib eb hφ sm sl hM2
 go_enter Tryz.func22, Tryz.ntmps22
 go_upto_region 1 with fail
 have u0 : (w.alloc (.cells #[.slice am nm cm] 22)).cell? ⟨w.heap.size, 0, none⟩ = some (.slice am nm cm) := box_cell HEB.out φb.le_refl HI.out.fz 0
 generalize w.alloc (.cells #[.slice am nm cm] 22) = wx at *
 obtain ⟨bm, hbm⟩ : ∃ b, w.heap.size = b := ⟨_, rfl⟩
 rw [hbm] at HEB u0 ⊢
 have HBM := Lib.hid hbm
 clear hbm
 have HEM := HEB
 by_cases hfm0 : fm = 0
 case neg =>
  have HQ : Hid (fm = f) := Lib.hid (by rw [← hf.out]; exact (ppmF_mgs hfm.out hfm0).symm)
  have h0i : (fm == 0) = false := by simp [hfm0]
  have h0j : (fm != 0) = true := by simp [hfm0]
  clear hfm0
  go_wp2_with (go_at_call 20; (with_reducible refine (CheckMargins_any hD hM HM2.out HI.out.fz HSM.out hnm hgm hfm).mono ?_); rintro e w1 ⟨rfl, hb1⟩; have I1 := Lib.hid (HI.out.callB hb1); clear hb1)
  go_ret
  exact ⟨ret_int HQ.out, I1.out.bel⟩
 case pos =>
  subst hfm0
  go_wp2_with (first
   | (go_at_call 20; (with_reducible refine (CheckMargins_any hD hM HM2.out HI.out.fz HSM.out hnm hgm hfm).mono ?_); rintro e w1 ⟨rfl, hb1⟩; have I1 := Lib.hid (HI.out.callB hb1); clear hb1)
   | (go_at_call 64; (with_reducible refine (listM_any hD HM2.out I1.out.fz HSM.out hnm HEM.out hfm HSL.out hn hsz hf).mono ?_); rintro e w2 ⟨rfl, hb2⟩; have I2 := Lib.hid (I1.out.callB hb2); clear hb2))
  go_ret
  exact ⟨rfl, I2.out.bel⟩
end Go.Proofs.YtmlpjffnmkndoaaGreatDoor

namespace Go.Proofs.YtmlpjffnmkndoaaGreatDoor
open Go.RowKit
set_option linter.unusedVariables false
set_option linter.unusedSimpArgs false
/-- The weights as a list. -/
noncomputable def wsL (l : List Psn) (n : Nat) : List Rat := (List.range n).map (wgtQ l)
theorem wsL_len {l : List Psn} {n : Nat} : (wsL l n).length = n := by simp [wsL]
theorem wsL_get {l : List Psn} {n j : Nat} (h : j < n) : (wsL l n).getD j 0 = wgtQ l j := by simp [wsL, h]
theorem fxw_L {N : Nat} (hN : N = 1000000000000) {l : List Psn} {n : Nat} (hn : l.length = n) : (wsL l n).map (Fx.mk (N := N) (D := N)) = l.map (fun p => Fx.mk (ratX p.1.1 p.1.2)) := by
 subst hn
 apply List.ext_getElem
 ·simp [wsL]
 ·intro i h1 h2
  simp [wsL] at h1
  simp [wsL, wgtQ, h1]
theorem rxw_L {N : Nat} (hN : N = 1000000000000) {l : List Psn} {n : Nat} (hn : l.length = n) : (wsL l n).map (Rx.mk (N := N) (D := N)) = l.map (fun p => Rx.mk (ratX p.1.1 p.1.2)) := by
 subst hn
 apply List.ext_getElem
 ·simp [wsL]
 ·intro i h1 h2
  simp [wsL] at h1
  simp [wsL, wgtQ, h1]
theorem celQ_congr {w v : Nat → Rat} {l : List Psn} {mi : Nat} {c : Int} {n : Nat} (h : ∀ j, j < n → w j = v j) : ∀ k, k ≤ n → celQ w l mi c k = celQ v l mi c k := by
  intro k
  induction k with
  | zero => exact fun _ => rfl
  | succ k ih =>
    intro hk
    by_cases e : celI l mi k = c
    · rw [celQ_yes e, celQ_yes e, ih (by omega), h k (by omega)]
    · rw [celQ_no e, celQ_no e, ih (by omega)]
/-- What people that pass are. -/
theorem ppmF_cells {m : List Mgn} {l : List Psn} {nm n : Nat} (hm : m.length = nm) (hn : l.length = n) (h : ppmF m l = 0) : nm ≤ 8 ∧ n ≤ 3000 ∧ (∀ p ∈ l, shoF p.1.1 p.1.2 = 0) ∧ (∀ i, i < nm → (m.getD i mgn0).2.length ≤ 40) ∧ ∀ i, i < nm → ∀ j, j < n → i < (l.getD j psn0).2.1.length ∧ ∃ c : Nat, c < (m.getD i mgn0).2.length ∧ celI l i j = (c : Int) := by
 subst hm hn
 obtain ⟨h1, h2, h3⟩ := ppmF_ok h
 obtain ⟨h4, h5, _⟩ := mgsF_ok h1
 refine ⟨h4, h2, fun p hp => ?_, fun i hi => (ttsF_ok (mgnF_ok (h5 i hi)).2).2.1, fun i hi j hj => ?_⟩
 ·obtain ⟨k, hk, rfl⟩ := List.getElem_of_mem hp
  have := (psmF_ok (h3 k hk)).1
  rwa [getD_elem0 _ _ _ hk] at this
 ·obtain ⟨e1, e2⟩ := celM_ok (psmF_ok (h3 j hj)).2.2
  obtain ⟨e3, e4⟩ := e2 i hi
  refine ⟨by omega, (celI l i j).toNat, ?_, ?_⟩
  ·unfold celI; omega
  ·unfold celI; omega
section
variable {m : List Mgn} {l : List Psn} {n k : Nat}
end
end Go.Proofs.YtmlpjffnmkndoaaGreatDoor

namespace Go.Proofs.YtmlpjffnmkndoaaGreatDoor
open Go.RowKit
set_option linter.unusedVariables false
set_option linter.unusedSimpArgs false
end Go.Proofs.YtmlpjffnmkndoaaGreatDoor

namespace Go.Proofs.YtmlpjffnmkndoaaGreatDoor
open Go.RowKit
set_option linter.unusedVariables false
set_option linter.unusedSimpArgs false
theorem p10_leP {j k : Nat} (h : j ≤ k) : p10 j ≤ p10 k := Nat.pow_le_pow_right (by decide) h
def GPsnR (x : Psn) : Prop := (StrG x.1.1 ∧ StrG x.1.2) ∧ ((x.2.1.length * 8 ≤ reachBytes ∧ ∀ y ∈ x.2.1, IsI64 y) ∧ (IsI64 x.2.2.1 ∧ (IsI64 x.2.2.2.1 ∧ IsI64 x.2.2.2.2)))
theorem rPsnR (H : Type) (enc : TypeId × Value → H) (W : World) : Reads enc Tryz.prog W 76 Psn GPsnR :=
 Reads.struct5 (s1 := 2) (s2 := 1) (s3 := 1) (s4 := 1) (s5 := 1) Tryz.underlying76 (by kernel_rfl) (by kernel_rfl) (by kernel_rfl) (by kernel_rfl) (by kernel_rfl) (by kernel_rfl) (by kernel_rfl) (by kernel_rfl) (by kernel_rfl) (by kernel_rfl) (by kernel_rfl) (rRti H enc W) (rInts H enc W) (rInt H enc W) (rInt H enc W) (rInt H enc W)
theorem rPsnsR (H : Type) (enc : TypeId × Value → H) (W : World) : Reads enc Tryz.prog W 23 (List Psn) (fun xs => xs.length * Tryz.prog.bytesOf 76 ≤ reachBytes ∧ ∀ x ∈ xs, GPsnR x) :=
 Reads.slice Tryz.underlying23 (by kernel_rfl) (by decide) (rPsnR H enc W)
theorem rRtis (H : Type) (enc : TypeId × Value → H) (W : World) : Reads enc Tryz.prog W 24 (List Rti) (fun xs => xs.length * Tryz.prog.bytesOf 32 ≤ reachBytes ∧ ∀ x ∈ xs, StrG x.1 ∧ StrG x.2) :=
 Reads.slice Tryz.underlying24 (by kernel_rfl) (by decide) (rRti H enc W)
def GMgn (x : Mgn) : Prop := StrG x.1 ∧ (x.2.length * Tryz.prog.bytesOf 32 ≤ reachBytes ∧ ∀ y ∈ x.2, StrG y.1 ∧ StrG y.2)
theorem rMgn (H : Type) (enc : TypeId × Value → H) (W : World) : Reads enc Tryz.prog W 30 Mgn GMgn :=
 Reads.struct2 (s1 := 1) (s2 := 1) Tryz.underlying30 (by kernel_rfl) (by kernel_rfl) (by kernel_rfl) (by kernel_rfl) (by kernel_rfl) (rStr H enc W) (rRtis H enc W)
theorem rMgns (H : Type) (enc : TypeId × Value → H) (W : World) : Reads enc Tryz.prog W 22 (List Mgn) (fun xs => xs.length * Tryz.prog.bytesOf 30 ≤ reachBytes ∧ ∀ x ∈ xs, GMgn x) :=
 Reads.slice Tryz.underlying22 (by kernel_rfl) (by decide) (rMgn H enc W)
theorem psnG_ofR {l : List Psn} (h : ∀ x ∈ l, GPsnR x) : ∀ p ∈ l, PsnG p := by
 intro p hp
 obtain ⟨⟨h1, h2⟩, _⟩ := h p hp
 unfold StrG reachBytes at h1 h2
 exact ⟨by omega, by omega⟩
theorem mgnG_of {m : List Mgn} (h : ∀ x ∈ m, GMgn x) : ∀ x ∈ m, MgnG x := by
 intro x hx
 obtain ⟨h1, _, h2⟩ := h x hx
 refine ⟨h1, fun r hr => ?_⟩
 obtain ⟨h3, h4⟩ := h2 r hr
 unfold StrG reachBytes at h3 h4
 exact ⟨by omega, by omega⟩
end Go.Proofs.YtmlpjffnmkndoaaGreatDoor
