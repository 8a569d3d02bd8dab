/- The law WeightBasesMatchSpec's walk. Conditions: the library's table of powers of ten reads as it was laid. The walks of the program's CheckPeople and what it calls. The plain law of Sums; the walk of the program's Sums. Conditions: the library's table of powers of ten reads as it was laid. The walk of the reference's Sums. Conditions: the library's tables of blanks and of powers of ten read as they were laid. The walks of sameMargin, slices.EqualFunc and the law WeightPeopleMatchSpec. Conditions: the library's tables of blanks and of powers of ten read as they were laid. Conditions: none beyond what the claim form gives. -/
import Derived.Test.YtmlpjffnmkndoaaGreatDoorJ3
import Derived.Test.YtmlpjffnmkndoaaGreatDoorNC
import Derived.Laws.StructEq
import Derived.Test.YtmlpjffnmkndoaaGreatDoorHA
import Derived.Test.YtmlpjffnmkndoaaGreatDoorJA
import Derived.Test.YtmlpjffnmkndoaaGreatDoorHS
import Derived.Test.YtmlpjffnmkndoaaGreatDoorJP
import Derived.Outline
import Derived.Test.YtmlpjffnmkndoaaGreatDoorHR
import Derived.Test.YtmlpjffnmkndoaaGreatDoorJ19
namespace Go.Proofs.YtmlpjffnmkndoaaGreatDoor
open Go.RowKit
set_option linter.unusedVariables false
set_option linter.unusedSimpArgs false
theorem neqR (w : World) (s t : ByteArray) : (binOp .neq 32 (.agg #[.string s, .string t]) (.agg #[.string s, .string t])).run Tryz.prog w = .ok (.bool false) w := by
  have hu := Tryz.underlying32
  rw [run_neq_struct, run_equalIn_agg w 9999 _ _ _ (by simp only [Program.fieldsOf, hu]) (by kernel_rfl)]
  simp only [Program.fieldsOf, hu]
  have hi := Tryz.underlying9
  simp [Op.eqFields, part, Program.cellsOf, run_equalIn_string w _ 9 _ _ hi, Result.andThen]
set_option maxHeartbeats 1000000 in
theorem EqualR_same (n : Nat) (a1 : Option Addr) (c1 : Nat) (xs : List Rti) (a2 : Option Addr) (c2 : Nat) (w : World) (φ : Phi) (hφ : Fz φ w) (s1 : SlV φ a1 c1 xs) (hn1 : Hid (xs.length = n)) (hm1 : n ≤ 9223372036854775807) (s2 : SlV φ a2 c2 xs) :
    Calls Tryz.prog 27 #[.slice a1 n c1, .slice a2 n c2] w (fun e w' => e = .returned (.bool true) ∧ Below w.heap.size w w') := by
  have hb1 : ((n : Int) != n) = false := by simp
  go_enter Tryz.func27, Tryz.ntmps27
  go_wp2
  clear hb1
  go_loopw [13] (fun i wr => ∃ k : Nat, k ≤ n ∧ i = .int .i64 k ∧ Hid (Below w.heap.size w wr)) (fun i _ => n - (intOf i).toNat)
  case atStart => exact ⟨0, Nat.zero_le _, rfl, Lib.hid (Below.refl _ _)⟩
  case round =>
    obtain ⟨k, hk, rfl, hB⟩ := hrel
    by_cases hlt : k < n
    · obtain ⟨b1, o1, rfl, f1⟩ := s1.rtisD hn1 hlt
      obtain ⟨d1, d2⟩ := f1 k hlt wr (hφ.below hB.out)
      obtain ⟨b2, o2, rfl, f2⟩ := s2.rtisD hn1 hlt
      obtain ⟨e1, e2⟩ := f2 k hlt wr (hφ.below hB.out)
      clear f1 f2
      have hi1 : (k : Int) < n := by omega
      generalize (xs.getD k rti0).1 = x at *
      generalize (xs.getD k rti0).2 = y at *
      have hgd : Tryz.prog.eqGuardType Tryz.prog.depth 32 = false := by kernel_rfl
      have hneq := fun w => neqR w x y
      go_wp2_with fail
      go_quiet (fail)
      go_wp2
      go_roundw
      case rel => exact ⟨k + 1, by omega, by go_num, Lib.hid (bdrewN hB.out _)⟩
      case measure => (simp [intOf] <;> omega)
    · obtain rfl : k = n := by omega
      go_wp2
      go_ret
      exact ⟨rfl, hB.out⟩
theorem rRti (H : Type) (enc : TypeId × Value → H) (W : World) : Reads enc Tryz.prog W 32 Rti (fun x => StrG x.1 ∧ StrG x.2) :=
  Reads.struct2 (s1 := 1) (s2 := 1) Tryz.underlying32 (by kernel_rfl) (by kernel_rfl) (by kernel_rfl) (by kernel_rfl) (by kernel_rfl) (rStr H enc W) (rStr H enc W)
end Go.Proofs.YtmlpjffnmkndoaaGreatDoor

namespace Go.Proofs.YtmlpjffnmkndoaaGreatDoor
open Go.RowKit
set_option linter.unusedVariables false
set_option linter.unusedSimpArgs false
set_option maxHeartbeats 2000000 in
theorem cellsM_any {mm : List Mgn} {nm cm : Nat} {am : Option Addr} {bm : Nat} {l : List Int} {n : Nat} {a : Option Addr} {c : Nat} {w : World} {φ : Phi} (hφ : Fz φ w) (sm : SlV φ am cm mm) (hnm : Hid (mm.length = nm)) (em : φ bm = some (.cells #[.slice am nm cm] 22)) (s : SlV φ a c l) (hn : Hid (l.length = n)) (hm : n ≤ 9223372036854775807) {f : Int} (hf : Hid (celM mm l = f)) :
    Calls Tryz.prog 65 #[.slice a n c, .pointer (some ⟨bm, 0, none⟩)] w (fun e w' => e = .returned (.int .i64 f) ∧ w = w') := by
  have hml : nm ≤ 9223372036854775807 := by have h1 := sm.capn; have h2 := sm.capm; rw [hnm.out] at h1; unfold maxLen at h2; omega
  have u0 : w.cell? ⟨bm, 0, none⟩ = some (.slice am nm cm) := box_cell em φ.le_refl hφ 0
  have HSM := Lib.hid sm
  have HS := Lib.hid s
  clear sm s em
  by_cases hnn : n = nm
  case neg =>
    have h8i : ((n : Int) == (nm : Int)) = false := by simp; omega
    have h8j : ((n : Int) != (nm : Int)) = true := by simp; omega
    have hq : Hid (f = 3) := Lib.hid (by rw [← hf.out]; unfold celM; rw [if_pos (by rw [hn.out, hnm.out]; exact hnn)])
    clear hnn
    go_enter Tryz.func65, Tryz.ntmps65
    go_wp2
    go_ret
    exact ⟨ret_int hq.out.symm, rfl⟩
  case pos =>
    subst hnn
    go_enter Tryz.func65, Tryz.ntmps65
    go_wp2
    go_loop [13] (fun v => ∃ k : Nat, k ≤ n ∧ v = .int .i64 (k : Int) ∧ Hid (∀ i, i < k → (if outB (l.getD i 0) 0 (((mm.getD i mgn0).2.length : Int) - 1) then 1 else 0 : Int) = 0)) (fun v => n - (intOf v).toNat)
    case atStart => exact ⟨0, Nat.zero_le _, rfl, none_yet _⟩
    case round =>
      obtain ⟨k, hk, rfl, hok⟩ := hrel
      by_cases hlt : k < n
      · have hlti : (k : Int) < (n : Int) := by omega
        obtain ⟨b, off, rfl, fc⟩ := HS.out.intsD hn hlt
        have d1 := (fc k hlt w hφ).2
        obtain ⟨b2, off2, rfl, fm⟩ := HSM.out.mgnsD hnm hlt
        obtain ⟨at_, ct_, sk, f2⟩ := fm k hlt
        obtain ⟨c1, c2⟩ := f2 w hφ
        have hcm := sk.capm
        have hcn := sk.capn
        obtain ⟨nt, hnt⟩ : ∃ x, (mm.getD k mgn0).2.length = x := ⟨_, rfl⟩
        rw [hnt] at c2 hcn
        have hntl : (nt : Int) ≤ 9223372036854775807 := by unfold maxLen at hcm; omega
        obtain ⟨o, ho⟩ : ∃ o, Hid (outB (l.getD k 0) 0 ((nt : Int) - 1) = o) := ⟨_, Lib.hid rfl⟩
        have hst := Lib.hid (fun (e : o = true) => celM_stop hn.out hnm.out hlt hok.out (by rw [hnt, ho.out]; exact e))
        have hnx := Lib.hid (fun (e : o = false) => next_ok hok (by rw [hnt, ho.out, e]; rfl))
        clear fc fm f2 sk hcm hcn hnt c1
        generalize l.getD k 0 = x at *
        cases o
        · have hn2 := hnx.out rfl
          clear hnx hst
          go_wp2_with (go_at_call 29; (with_reducible refine (outW _ _ _ _ ho).mono ?_); rintro e w' ⟨rfl, rfl⟩)
          go_round
          case rel => exact ⟨k + 1, by omega, by go_num, hn2⟩
          case measure => (simp [intOf] <;> omega)
        · have hq : Hid (f = 1) := Lib.hid (by rw [← hf.out]; exact hst.out rfl)
          clear hnx hst
          go_wp2_with (go_at_call 29; (with_reducible refine (outW _ _ _ _ ho).mono ?_); rintro e w' ⟨rfl, rfl⟩)
          go_ret
          exact ⟨ret_int hq.out.symm, rfl⟩
      · have hkn : n = k := by omega
        subst hkn
        have hq : Hid (f = 0) := Lib.hid (by rw [← hf.out]; exact celM_zero hn.out hnm.out hok.out)
        go_wp2
        go_ret
        exact ⟨ret_int hq.out.symm, rfl⟩
set_option maxRecDepth 100000 in
set_option maxHeartbeats 2000000 in
theorem personM_any {M : Nat} (hD : Hid (DivOk M)) (hM2 : p10 2000 ≤ M) {mm : List Mgn} {nm cm : Nat} {am : Option Addr} {bm : Nat} {s t : ByteArray} {cl : List Int} {m : Nat} {ar : Option Addr} {cr : Nat} {x y z : Int} {w : World} {φ : Phi} (hφ : Fz φ w) (sm : SlV φ am cm mm) (hnm : Hid (mm.length = nm)) (em : φ bm = some (.cells #[.slice am nm cm] 22)) (sc : SlV φ ar cr cl) (hcn : Hid (cl.length = m)) (hs : s.size ≤ 9223372036854775807) (ht : t.size ≤ 9223372036854775807) {f : Int} (hf : Hid (psmF mm ((s, t), cl, x, y, z) = f)) :
    Calls Tryz.prog 113 #[.agg #[.string s, .string t, .slice ar m cr, .int .i64 x, .int .i64 y, .int .i64 z], .func (.func 65) #[] #[.pointer (some ⟨bm, 0, none⟩)]] w (fun e w' => e = .returned (.int .i64 f) ∧ Below w.heap.size w w') := by
  have HM2 := Lib.hid hM2
  have HSM := Lib.hid sm
  have HEM := Lib.hid em
  have hm9 : m ≤ 9223372036854775807 := by have h1 := sc.capn; have h2 := sc.capm; rw [hcn.out] at h1; unfold maxLen at h2; omega
  have HSC := Lib.hid sc
  have HI := Lib.hid ((Inv.start hφ).alloc (.cells #[.string s, .string t, .slice ar m cr, .int .i64 x, .int .i64 y, .int .i64 z] 76))
  have HK := Lib.hid (Blk.new w #[.string s, .string t, .slice ar m cr, .int .i64 x, .int .i64 y, .int .i64 z] 76)
  have hq := hf.out
  unfold psmF wgtF at hq
  dsimp only at hq
  obtain ⟨g, hg⟩ : ∃ g, Hid (shoF s t = g) := ⟨_, Lib.hid rfl⟩
  obtain ⟨cf, hcf⟩ : ∃ g, Hid (celM mm cl = g) := ⟨_, Lib.hid rfl⟩
  obtain ⟨o1, ho1⟩ : ∃ g, Hid (outB x 0 200 = g) := ⟨_, Lib.hid rfl⟩
  obtain ⟨o2, ho2⟩ : ∃ g, Hid (outB y 0 200 = g) := ⟨_, Lib.hid rfl⟩
  obtain ⟨o3, ho3⟩ : ∃ g, Hid (outB z 0 200 = g) := ⟨_, Lib.hid rfl⟩
  obtain ⟨r, hr⟩ : ∃ r, Hid (ratX s t = r) := ⟨_, Lib.hid rfl⟩
  unfold numF at hq
  rw [hg.out, hcf.out, ho1.out, ho2.out, ho3.out, hr.out] at hq
  clear hM2 hφ sc hf sm em
  go_enter Tryz.func113, Tryz.ntmps113
  go_upto_region 1 with fail
  generalize w.alloc (.cells #[.string s, .string t, .slice ar m cr, .int .i64 x, .int .i64 y, .int .i64 z] 76) = wx at *
  obtain ⟨bx, hbx⟩ : ∃ b, w.heap.size = b := ⟨_, rfl⟩
  rw [hbx] at HK ⊢
  have HBX := Lib.hid hbx
  clear hbx
  have x0 : wx.cell? ⟨bx, 0, none⟩ = some (.string s) := HK.out.cell 0
  have x1 : wx.cell? ⟨bx, 1, none⟩ = some (.string t) := HK.out.cell 1
  by_cases hg0 : g = 0
  · subst hg0
    have hrf := Lib.hid (shoF_ok hg.out).1
    have hC := Lib.hid (fun W (hf : Fz φ W) => FracOf_any hD HM2.out hs ht hrf hf)
    obtain ⟨N, hNe⟩ : ∃ N, dV (bodyB s).data.toList = N := ⟨_, rfl⟩
    obtain ⟨Dn, hDe⟩ : ∃ N, dV t.data.toList = N := ⟨_, rfl⟩
    rw [hr.out, hNe, hDe] at hC
    obtain ⟨q1, hq1⟩ : ∃ q, Hid (sgI r = q) := ⟨_, Lib.hid rfl⟩
    have e1 := sgI_le (x := r)
    rw [hq1.out] at e1
    rw [if_neg (by simp : ¬ (0 : Int) ≠ 0)] at hq
    clear hNe hDe
    by_cases hr0 : r ≤ 0
    · have hq0 : q1 ≤ 0 := e1.2 hr0
      rw [if_pos hr0, if_pos (by decide)] at hq
      have HQ := Lib.hid hq
      clear hq e1 hr0
      go_wp2_with (first
        | (go_at_call 87; (with_reducible refine (Short_any hD HM2.out hs ht hg HI.out.fz).mono ?_); rintro e w2 ⟨rfl, hb2⟩; have I2 := Lib.hid (HI.out.callB hb2); have K2 := Lib.hid (HK.out.callB hb2); have y0 : w2.cell? ⟨bx, 0, none⟩ = some (.string s) := K2.out.cell 0; have y1 : w2.cell? ⟨bx, 1, none⟩ = some (.string t) := K2.out.cell 1; clear hb2)
        | (go_at_call 42; (with_reducible refine (hC.out _ I2.out.fz).mono ?_); rintro e w3 ⟨v3, φ3, rfl, hi3, hv3⟩; obtain ⟨g3, n3, m3, k3, k4, a3, c3, a4, c4, rfl, _⟩ := hv3.open; have I3 := Lib.hid (I2.out.callB hi3.bel); have F3 := Lib.hid hi3.fz; have V3 := Lib.hid hv3; have K3 := Lib.hid (K2.out.callB hi3.bel); clear hi3 hv3)
        | (go_at_call 76; (with_reducible refine (Sign_any F3.out V3.out hq1).mono ?_); rintro e w4 ⟨rfl, hb4⟩; have I4 := Lib.hid (I3.out.callB hb4); have K4 := Lib.hid (K3.out.callB hb4); have z2 : w4.cell? ⟨bx, 2, none⟩ = some (.slice ar m cr) := K4.out.cell 2; have z3 : w4.cell? ⟨bx, 3, none⟩ = some (.int .i64 x) := K4.out.cell 3; have z4 : w4.cell? ⟨bx, 4, none⟩ = some (.int .i64 y) := K4.out.cell 4; have z5 : w4.cell? ⟨bx, 5, none⟩ = some (.int .i64 z) := K4.out.cell 5; clear hb4)
        | (go_at_call 65; (with_reducible refine (cellsM_any I4.out.fz HSM.out hnm HEM.out HSC.out hcn hm9 hcf).mono ?_); rintro e w' ⟨rfl, rfl⟩)
        | (go_at_call 29; (with_reducible refine (outW _ _ _ _ ho1).mono ?_); rintro e w' ⟨rfl, rfl⟩)
        | (go_at_call 29; (with_reducible refine (outW _ _ _ _ ho2).mono ?_); rintro e w' ⟨rfl, rfl⟩)
        | (go_at_call 29; (with_reducible refine (outW _ _ _ _ ho3).mono ?_); rintro e w' ⟨rfl, rfl⟩))
      go_ret
      exact ⟨ret_int HQ.out, I4.out.bel⟩
    · have hq0 : ¬ q1 ≤ 0 := fun h => hr0 (e1.1 h)
      rw [if_neg hr0, if_neg (by simp)] at hq
      clear e1 hr0
      by_cases hc0 : cf = 0
      · subst hc0
        rw [if_neg (by simp)] at hq
        cases o1
        · cases o2
          · cases o3
            · have HQ : Hid ((0 : Int) = f) := Lib.hid hq
              clear hq
              go_wp2_with (first
                | (go_at_call 87; (with_reducible refine (Short_any hD HM2.out hs ht hg HI.out.fz).mono ?_); rintro e w2 ⟨rfl, hb2⟩; have I2 := Lib.hid (HI.out.callB hb2); have K2 := Lib.hid (HK.out.callB hb2); have y0 : w2.cell? ⟨bx, 0, none⟩ = some (.string s) := K2.out.cell 0; have y1 : w2.cell? ⟨bx, 1, none⟩ = some (.string t) := K2.out.cell 1; clear hb2)
                | (go_at_call 42; (with_reducible refine (hC.out _ I2.out.fz).mono ?_); rintro e w3 ⟨v3, φ3, rfl, hi3, hv3⟩; obtain ⟨g3, n3, m3, k3, k4, a3, c3, a4, c4, rfl, _⟩ := hv3.open; have I3 := Lib.hid (I2.out.callB hi3.bel); have F3 := Lib.hid hi3.fz; have V3 := Lib.hid hv3; have K3 := Lib.hid (K2.out.callB hi3.bel); clear hi3 hv3)
                | (go_at_call 76; (with_reducible refine (Sign_any F3.out V3.out hq1).mono ?_); rintro e w4 ⟨rfl, hb4⟩; have I4 := Lib.hid (I3.out.callB hb4); have K4 := Lib.hid (K3.out.callB hb4); have z2 : w4.cell? ⟨bx, 2, none⟩ = some (.slice ar m cr) := K4.out.cell 2; have z3 : w4.cell? ⟨bx, 3, none⟩ = some (.int .i64 x) := K4.out.cell 3; have z4 : w4.cell? ⟨bx, 4, none⟩ = some (.int .i64 y) := K4.out.cell 4; have z5 : w4.cell? ⟨bx, 5, none⟩ = some (.int .i64 z) := K4.out.cell 5; clear hb4)
                | (go_at_call 65; (with_reducible refine (cellsM_any I4.out.fz HSM.out hnm HEM.out HSC.out hcn hm9 hcf).mono ?_); rintro e w' ⟨rfl, rfl⟩)
                | (go_at_call 29; (with_reducible refine (outW _ _ _ _ ho1).mono ?_); rintro e w' ⟨rfl, rfl⟩)
                | (go_at_call 29; (with_reducible refine (outW _ _ _ _ ho2).mono ?_); rintro e w' ⟨rfl, rfl⟩)
                | (go_at_call 29; (with_reducible refine (outW _ _ _ _ ho3).mono ?_); rintro e w' ⟨rfl, rfl⟩))
              go_ret
              exact ⟨ret_int HQ.out, I4.out.bel⟩
            · have HQ : Hid ((1 : Int) = f) := Lib.hid hq
              clear hq
              go_wp2_with (first
                | (go_at_call 87; (with_reducible refine (Short_any hD HM2.out hs ht hg HI.out.fz).mono ?_); rintro e w2 ⟨rfl, hb2⟩; have I2 := Lib.hid (HI.out.callB hb2); have K2 := Lib.hid (HK.out.callB hb2); have y0 : w2.cell? ⟨bx, 0, none⟩ = some (.string s) := K2.out.cell 0; have y1 : w2.cell? ⟨bx, 1, none⟩ = some (.string t) := K2.out.cell 1; clear hb2)
                | (go_at_call 42; (with_reducible refine (hC.out _ I2.out.fz).mono ?_); rintro e w3 ⟨v3, φ3, rfl, hi3, hv3⟩; obtain ⟨g3, n3, m3, k3, k4, a3, c3, a4, c4, rfl, _⟩ := hv3.open; have I3 := Lib.hid (I2.out.callB hi3.bel); have F3 := Lib.hid hi3.fz; have V3 := Lib.hid hv3; have K3 := Lib.hid (K2.out.callB hi3.bel); clear hi3 hv3)
                | (go_at_call 76; (with_reducible refine (Sign_any F3.out V3.out hq1).mono ?_); rintro e w4 ⟨rfl, hb4⟩; have I4 := Lib.hid (I3.out.callB hb4); have K4 := Lib.hid (K3.out.callB hb4); have z2 : w4.cell? ⟨bx, 2, none⟩ = some (.slice ar m cr) := K4.out.cell 2; have z3 : w4.cell? ⟨bx, 3, none⟩ = some (.int .i64 x) := K4.out.cell 3; have z4 : w4.cell? ⟨bx, 4, none⟩ = some (.int .i64 y) := K4.out.cell 4; have z5 : w4.cell? ⟨bx, 5, none⟩ = some (.int .i64 z) := K4.out.cell 5; clear hb4)
                | (go_at_call 65; (with_reducible refine (cellsM_any I4.out.fz HSM.out hnm HEM.out HSC.out hcn hm9 hcf).mono ?_); rintro e w' ⟨rfl, rfl⟩)
                | (go_at_call 29; (with_reducible refine (outW _ _ _ _ ho1).mono ?_); rintro e w' ⟨rfl, rfl⟩)
                | (go_at_call 29; (with_reducible refine (outW _ _ _ _ ho2).mono ?_); rintro e w' ⟨rfl, rfl⟩)
                | (go_at_call 29; (with_reducible refine (outW _ _ _ _ ho3).mono ?_); rintro e w' ⟨rfl, rfl⟩))
              go_ret
              exact ⟨ret_int HQ.out, I4.out.bel⟩
          · have HQ : Hid ((1 : Int) = f) := Lib.hid hq
            clear hq
            go_wp2_with (first
              | (go_at_call 87; (with_reducible refine (Short_any hD HM2.out hs ht hg HI.out.fz).mono ?_); rintro e w2 ⟨rfl, hb2⟩; have I2 := Lib.hid (HI.out.callB hb2); have K2 := Lib.hid (HK.out.callB hb2); have y0 : w2.cell? ⟨bx, 0, none⟩ = some (.string s) := K2.out.cell 0; have y1 : w2.cell? ⟨bx, 1, none⟩ = some (.string t) := K2.out.cell 1; clear hb2)
              | (go_at_call 42; (with_reducible refine (hC.out _ I2.out.fz).mono ?_); rintro e w3 ⟨v3, φ3, rfl, hi3, hv3⟩; obtain ⟨g3, n3, m3, k3, k4, a3, c3, a4, c4, rfl, _⟩ := hv3.open; have I3 := Lib.hid (I2.out.callB hi3.bel); have F3 := Lib.hid hi3.fz; have V3 := Lib.hid hv3; have K3 := Lib.hid (K2.out.callB hi3.bel); clear hi3 hv3)
              | (go_at_call 76; (with_reducible refine (Sign_any F3.out V3.out hq1).mono ?_); rintro e w4 ⟨rfl, hb4⟩; have I4 := Lib.hid (I3.out.callB hb4); have K4 := Lib.hid (K3.out.callB hb4); have z2 : w4.cell? ⟨bx, 2, none⟩ = some (.slice ar m cr) := K4.out.cell 2; have z3 : w4.cell? ⟨bx, 3, none⟩ = some (.int .i64 x) := K4.out.cell 3; have z4 : w4.cell? ⟨bx, 4, none⟩ = some (.int .i64 y) := K4.out.cell 4; have z5 : w4.cell? ⟨bx, 5, none⟩ = some (.int .i64 z) := K4.out.cell 5; clear hb4)
              | (go_at_call 65; (with_reducible refine (cellsM_any I4.out.fz HSM.out hnm HEM.out HSC.out hcn hm9 hcf).mono ?_); rintro e w' ⟨rfl, rfl⟩)
              | (go_at_call 29; (with_reducible refine (outW _ _ _ _ ho1).mono ?_); rintro e w' ⟨rfl, rfl⟩)
              | (go_at_call 29; (with_reducible refine (outW _ _ _ _ ho2).mono ?_); rintro e w' ⟨rfl, rfl⟩)
              | (go_at_call 29; (with_reducible refine (outW _ _ _ _ ho3).mono ?_); rintro e w' ⟨rfl, rfl⟩))
            go_ret
            exact ⟨ret_int HQ.out, I4.out.bel⟩
        · have HQ : Hid ((1 : Int) = f) := Lib.hid hq
          clear hq
          go_wp2_with (first
            | (go_at_call 87; (with_reducible refine (Short_any hD HM2.out hs ht hg HI.out.fz).mono ?_); rintro e w2 ⟨rfl, hb2⟩; have I2 := Lib.hid (HI.out.callB hb2); have K2 := Lib.hid (HK.out.callB hb2); have y0 : w2.cell? ⟨bx, 0, none⟩ = some (.string s) := K2.out.cell 0; have y1 : w2.cell? ⟨bx, 1, none⟩ = some (.string t) := K2.out.cell 1; clear hb2)
            | (go_at_call 42; (with_reducible refine (hC.out _ I2.out.fz).mono ?_); rintro e w3 ⟨v3, φ3, rfl, hi3, hv3⟩; obtain ⟨g3, n3, m3, k3, k4, a3, c3, a4, c4, rfl, _⟩ := hv3.open; have I3 := Lib.hid (I2.out.callB hi3.bel); have F3 := Lib.hid hi3.fz; have V3 := Lib.hid hv3; have K3 := Lib.hid (K2.out.callB hi3.bel); clear hi3 hv3)
            | (go_at_call 76; (with_reducible refine (Sign_any F3.out V3.out hq1).mono ?_); rintro e w4 ⟨rfl, hb4⟩; have I4 := Lib.hid (I3.out.callB hb4); have K4 := Lib.hid (K3.out.callB hb4); have z2 : w4.cell? ⟨bx, 2, none⟩ = some (.slice ar m cr) := K4.out.cell 2; have z3 : w4.cell? ⟨bx, 3, none⟩ = some (.int .i64 x) := K4.out.cell 3; have z4 : w4.cell? ⟨bx, 4, none⟩ = some (.int .i64 y) := K4.out.cell 4; have z5 : w4.cell? ⟨bx, 5, none⟩ = some (.int .i64 z) := K4.out.cell 5; clear hb4)
            | (go_at_call 65; (with_reducible refine (cellsM_any I4.out.fz HSM.out hnm HEM.out HSC.out hcn hm9 hcf).mono ?_); rintro e w' ⟨rfl, rfl⟩)
            | (go_at_call 29; (with_reducible refine (outW _ _ _ _ ho1).mono ?_); rintro e w' ⟨rfl, rfl⟩)
            | (go_at_call 29; (with_reducible refine (outW _ _ _ _ ho2).mono ?_); rintro e w' ⟨rfl, rfl⟩)
            | (go_at_call 29; (with_reducible refine (outW _ _ _ _ ho3).mono ?_); rintro e w' ⟨rfl, rfl⟩))
          go_ret
          exact ⟨ret_int HQ.out, I4.out.bel⟩
      · rw [if_pos hc0] at hq
        have hc1 : (cf == 0) = false := by simp [hc0]
        have hc2 : (cf != 0) = true := by simp [hc0]
        have HQ := Lib.hid hq
        clear hq hc0
        go_wp2_with (first
          | (go_at_call 87; (with_reducible refine (Short_any hD HM2.out hs ht hg HI.out.fz).mono ?_); rintro e w2 ⟨rfl, hb2⟩; have I2 := Lib.hid (HI.out.callB hb2); have K2 := Lib.hid (HK.out.callB hb2); have y0 : w2.cell? ⟨bx, 0, none⟩ = some (.string s) := K2.out.cell 0; have y1 : w2.cell? ⟨bx, 1, none⟩ = some (.string t) := K2.out.cell 1; clear hb2)
          | (go_at_call 42; (with_reducible refine (hC.out _ I2.out.fz).mono ?_); rintro e w3 ⟨v3, φ3, rfl, hi3, hv3⟩; obtain ⟨g3, n3, m3, k3, k4, a3, c3, a4, c4, rfl, _⟩ := hv3.open; have I3 := Lib.hid (I2.out.callB hi3.bel); have F3 := Lib.hid hi3.fz; have V3 := Lib.hid hv3; have K3 := Lib.hid (K2.out.callB hi3.bel); clear hi3 hv3)
          | (go_at_call 76; (with_reducible refine (Sign_any F3.out V3.out hq1).mono ?_); rintro e w4 ⟨rfl, hb4⟩; have I4 := Lib.hid (I3.out.callB hb4); have K4 := Lib.hid (K3.out.callB hb4); have z2 : w4.cell? ⟨bx, 2, none⟩ = some (.slice ar m cr) := K4.out.cell 2; have z3 : w4.cell? ⟨bx, 3, none⟩ = some (.int .i64 x) := K4.out.cell 3; have z4 : w4.cell? ⟨bx, 4, none⟩ = some (.int .i64 y) := K4.out.cell 4; have z5 : w4.cell? ⟨bx, 5, none⟩ = some (.int .i64 z) := K4.out.cell 5; clear hb4)
          | (go_at_call 65; (with_reducible refine (cellsM_any I4.out.fz HSM.out hnm HEM.out HSC.out hcn hm9 hcf).mono ?_); rintro e w' ⟨rfl, rfl⟩)
          | (go_at_call 29; (with_reducible refine (outW _ _ _ _ ho1).mono ?_); rintro e w' ⟨rfl, rfl⟩)
          | (go_at_call 29; (with_reducible refine (outW _ _ _ _ ho2).mono ?_); rintro e w' ⟨rfl, rfl⟩)
          | (go_at_call 29; (with_reducible refine (outW _ _ _ _ ho3).mono ?_); rintro e w' ⟨rfl, rfl⟩))
        go_ret
        exact ⟨ret_int HQ.out, I4.out.bel⟩
  · rw [if_pos hg0, if_pos hg0] at hq
    have h0i : (g == 0) = false := by simp [hg0]
    have h0j : (g != 0) = true := by simp [hg0]
    have HQ := Lib.hid hq
    clear hq hg0
    go_wp2_with (first
      | (go_at_call 87; (with_reducible refine (Short_any hD HM2.out hs ht hg HI.out.fz).mono ?_); rintro e w2 ⟨rfl, hb2⟩; have I2 := Lib.hid (HI.out.callB hb2); have K2 := Lib.hid (HK.out.callB hb2); have y0 : w2.cell? ⟨bx, 0, none⟩ = some (.string s) := K2.out.cell 0; have y1 : w2.cell? ⟨bx, 1, none⟩ = some (.string t) := K2.out.cell 1; clear hb2)
      | (go_at_call 42; (with_reducible refine (hC.out _ I2.out.fz).mono ?_); rintro e w3 ⟨v3, φ3, rfl, hi3, hv3⟩; obtain ⟨g3, n3, m3, k3, k4, a3, c3, a4, c4, rfl, _⟩ := hv3.open; have I3 := Lib.hid (I2.out.callB hi3.bel); have F3 := Lib.hid hi3.fz; have V3 := Lib.hid hv3; have K3 := Lib.hid (K2.out.callB hi3.bel); clear hi3 hv3)
      | (go_at_call 76; (with_reducible refine (Sign_any F3.out V3.out hq1).mono ?_); rintro e w4 ⟨rfl, hb4⟩; have I4 := Lib.hid (I3.out.callB hb4); have K4 := Lib.hid (K3.out.callB hb4); have z2 : w4.cell? ⟨bx, 2, none⟩ = some (.slice ar m cr) := K4.out.cell 2; have z3 : w4.cell? ⟨bx, 3, none⟩ = some (.int .i64 x) := K4.out.cell 3; have z4 : w4.cell? ⟨bx, 4, none⟩ = some (.int .i64 y) := K4.out.cell 4; have z5 : w4.cell? ⟨bx, 5, none⟩ = some (.int .i64 z) := K4.out.cell 5; clear hb4)
      | (go_at_call 65; (with_reducible refine (cellsM_any I4.out.fz HSM.out hnm HEM.out HSC.out hcn hm9 hcf).mono ?_); rintro e w' ⟨rfl, rfl⟩)
      | (go_at_call 29; (with_reducible refine (outW _ _ _ _ ho1).mono ?_); rintro e w' ⟨rfl, rfl⟩)
      | (go_at_call 29; (with_reducible refine (outW _ _ _ _ ho2).mono ?_); rintro e w' ⟨rfl, rfl⟩)
      | (go_at_call 29; (with_reducible refine (outW _ _ _ _ ho3).mono ?_); rintro e w' ⟨rfl, rfl⟩))
    go_ret
    exact ⟨ret_int HQ.out, I2.out.bel⟩
set_option maxRecDepth 100000 in
set_option maxHeartbeats 4000000 in
theorem listM_any {M : Nat} (hD : Hid (DivOk M)) (hM2 : p10 2000 ≤ M) {mm : List Mgn} {nm cm : Nat} {am : Option Addr} {bm : Nat} {n : Nat} {a : Option Addr} {cap : Nat} {l : List Psn} {w : World} {φ : Phi} (hφ : Fz φ w) (sm : SlV φ am cm mm) (hnm : Hid (mm.length = nm)) (em : φ bm = some (.cells #[.slice am nm cm] 22)) (hm0 : Hid (mgsF mm = 0)) (sl : SlV φ a cap l) (hn : Hid (l.length = n)) (hsz : Hid (∀ p ∈ l, PsnG p)) {f : Int} (hf : Hid (ppmF mm l = f)) :
    Calls Tryz.prog 64 #[.slice a n cap, .func (.func 65) #[] #[.pointer (some ⟨bm, 0, none⟩)]] w (fun e w' => e = .returned (.int .i64 f) ∧ Below w.heap.size w w') := by
  have HM2 := Lib.hid hM2
  have hnl : n ≤ 9223372036854775807 := by have := sl.capn; have := sl.capm; rw [hn.out] at *; unfold maxLen at *; omega
  have hS0 : Hid (Inv w.heap.size w φ φ w) := Lib.hid (Inv.start hφ)
  have HSM := Lib.hid sm
  have HEM := Lib.hid em
  have HSL := Lib.hid sl
  clear hM2 hφ sm em sl
  by_cases h3 : 3000 < n
  · have h3i : (3000 : Int) < (n : Int) := by omega
    have hq : Hid (f = 2) := Lib.hid (by rw [← hf.out]; exact ppmF_large hm0.out (by rw [hn.out]; exact h3))
    clear h3
    go_enter Tryz.func64, Tryz.ntmps64
    go_wp2
    go_ret
    exact ⟨ret_int hq.out.symm, hS0.out.bel⟩
  have h3i : ¬ (3000 : Int) < (n : Int) := by omega
  have h3n : n ≤ 3000 := by omega
  clear h3
  go_enter Tryz.func64, Tryz.ntmps64
  go_wp2
  go_loopw [13] (fun iv wr => ∃ (k : Nat), k ≤ n ∧ iv = .int .i64 (k : Int) ∧ Hid (∀ i, i < k → psmF mm (l.getD i psn0) = 0) ∧ Hid (Inv w.heap.size w φ φ wr)) (fun iv _ => n - (intOf iv).toNat)
  case atStart => exact ⟨0, Nat.zero_le _, rfl, none_yet _, hS0⟩
  case round =>
    clear hS0
    obtain ⟨k, hk, rfl, hok, hS⟩ := hrel
    by_cases hlt : k < n
    · have hlti : (k : Int) < (n : Int) := by omega
      obtain ⟨b, off, rfl, fc⟩ := HSL.out.psnsD hn hlt
      obtain ⟨ar, cr, sc, f2⟩ := fc k hlt
      obtain ⟨d0, d1, d2, d3, d4, d5⟩ := f2 wr hS.out.fz
      have hm : l.getD k psn0 ∈ l := by rw [getD_elem0 _ _ _ (by rw [hn.out]; exact hlt)]; exact List.getElem_mem _
      obtain ⟨p, hp⟩ : ∃ p, l.getD k psn0 = p := ⟨_, rfl⟩
      rw [hp] at hm d0 d1 d2 d3 d4 d5 sc
      have hg := hsz.out p hm
      obtain ⟨q, hq⟩ : ∃ q, Hid (psmF mm p = q) := ⟨_, Lib.hid rfl⟩
      have hst := Lib.hid (fun (e : q ≠ 0) => ppmF_stop hm0.out hn.out h3n hlt hok.out (by rw [hp]; exact hq.out) e)
      have hnx := Lib.hid (fun (e : q = 0) => next_ok (f := fun i => psmF mm (l.getD i psn0)) hok (by show psmF mm (l.getD k psn0) = 0; rw [hp, hq.out, e]))
      obtain ⟨⟨s, t⟩, cl, x, y, z⟩ := p
      have hs : s.size ≤ 9223372036854775807 := hg.1
      have ht : t.size ≤ 9223372036854775807 := hg.2
      dsimp only at d0 d1 d2 d3 d4 d5 sc
      obtain ⟨m, hm9⟩ : ∃ m, cl.length = m := ⟨_, rfl⟩
      rw [hm9] at d2
      have hcn := Lib.hid hm9
      have HSC := Lib.hid sc
      have hS1 := Lib.hid (hS.out.alloc (.cells #[.string s, .string t, .slice ar m cr, .int .i64 x, .int .i64 y, .int .i64 z] 76))
      clear fc f2 hm hg hp hm9 sc hS
      by_cases hq0 : q = 0
      · subst hq0
        have hn2 := hnx.out rfl
        clear hnx hst
        go_wp2_with (go_at_call 113; (with_reducible refine (personM_any hD HM2.out hS1.out.fz HSM.out hnm HEM.out HSC.out hcn hs ht hq).mono ?_); rintro e w2 ⟨rfl, hb2⟩; have hS2 := Lib.hid (hS1.out.callB hb2); clear hb2)
        go_roundw
        case rel => exact ⟨k + 1, by omega, by go_num, hn2, hS2⟩
        case measure => (simp [intOf] <;> omega)
      · have hE : Hid (q = f) := Lib.hid (by rw [← hf.out]; exact (hst.out hq0).symm)
        have h0i : (q == 0) = false := by simp [hq0]
        have h0j : (q != 0) = true := by simp [hq0]
        clear hnx hst hq0
        go_wp2_with (go_at_call 113; (with_reducible refine (personM_any hD HM2.out hS1.out.fz HSM.out hnm HEM.out HSC.out hcn hs ht hq).mono ?_); rintro e w2 ⟨rfl, hb2⟩; have hS2 := Lib.hid (hS1.out.callB hb2); clear hb2)
        go_ret
        exact ⟨ret_int hE.out, hS2.out.bel⟩
    · obtain rfl : k = n := by omega
      have hE : Hid (f = 0) := Lib.hid (by rw [← hf.out]; exact ppmF_zero hm0.out hn.out h3n hok.out)
      go_wp2
      go_ret
      exact ⟨ret_int hE.out.symm, hS.out.bel⟩
set_option maxRecDepth 100000 in
set_option maxHeartbeats 4000000 in
theorem CheckPeople_any {M : Nat} (hD : Hid (DivOk M)) (hM : LenB M) (hM2 : p10 2000 ≤ M) {mm : List Mgn} {nm cm : Nat} {am : Option Addr} {n : Nat} {a : Option Addr} {cap : Nat} {l : List Psn} {w : World} {φ : Phi} (hφ : Fz φ w) (sm : SlV φ am cm mm) (hnm : Hid (mm.length = nm)) (hgm : Hid (∀ x ∈ mm, MgnG x)) (sl : SlV φ a cap l) (hn : Hid (l.length = n)) (hsz : Hid (∀ p ∈ l, PsnG p)) {f : Int} (hf : Hid (ppmF mm l = f)) :
    Calls Tryz.prog 22 #[.slice am nm cm, .slice a n cap] w (fun e w' => e = .returned (.int .i64 f) ∧ Below w.heap.size w w') := by
  have HM2 := Lib.hid hM2
  have hnl : n ≤ 9223372036854775807 := by have := sl.capn; have := sl.capm; rw [hn.out] at *; unfold maxLen at *; omega
  obtain ⟨φb, lb, ib, eb⟩ := (Inv.start hφ).frz (.cells #[.slice am nm cm] 22)
  have HI := Lib.hid ib
  have HEB := Lib.hid eb
  have HSM := Lib.hid (sm.mono lb)
  have HSL := Lib.hid (sl.mono lb)
  obtain ⟨fm, hfm⟩ : ∃ x, Hid (mgsF mm = x) := ⟨_, Lib.hid rfl⟩
  clear lb ib eb hφ sm sl hM2
  go_enter Tryz.func22, Tryz.ntmps22
  go_upto_region 1 with fail
  have u0 : (w.alloc (.cells #[.slice am nm cm] 22)).cell? ⟨w.heap.size, 0, none⟩ = some (.slice am nm cm) := box_cell HEB.out φb.le_refl HI.out.fz 0
  generalize w.alloc (.cells #[.slice am nm cm] 22) = wx at *
  obtain ⟨bm, hbm⟩ : ∃ b, w.heap.size = b := ⟨_, rfl⟩
  rw [hbm] at HEB u0 ⊢
  have HBM := Lib.hid hbm
  clear hbm
  have HEM := HEB
  by_cases hfm0 : fm = 0
  case neg =>
    have HQ : Hid (fm = f) := Lib.hid (by rw [← hf.out]; exact (ppmF_mgs hfm.out hfm0).symm)
    have h0i : (fm == 0) = false := by simp [hfm0]
    have h0j : (fm != 0) = true := by simp [hfm0]
    clear hfm0
    go_wp2_with (go_at_call 20; (with_reducible refine (CheckMargins_any hD hM HM2.out HI.out.fz HSM.out hnm hgm hfm).mono ?_); rintro e w1 ⟨rfl, hb1⟩; have I1 := Lib.hid (HI.out.callB hb1); clear hb1)
    go_ret
    exact ⟨ret_int HQ.out, I1.out.bel⟩
  case pos =>
    subst hfm0
    go_wp2_with (first
      | (go_at_call 20; (with_reducible refine (CheckMargins_any hD hM HM2.out HI.out.fz HSM.out hnm hgm hfm).mono ?_); rintro e w1 ⟨rfl, hb1⟩; have I1 := Lib.hid (HI.out.callB hb1); clear hb1)
      | (go_at_call 64; (with_reducible refine (listM_any hD HM2.out I1.out.fz HSM.out hnm HEM.out hfm HSL.out hn hsz hf).mono ?_); rintro e w2 ⟨rfl, hb2⟩; have I2 := Lib.hid (I1.out.callB hb2); clear hb2))
    go_ret
    exact ⟨rfl, I2.out.bel⟩
end Go.Proofs.YtmlpjffnmkndoaaGreatDoor

namespace Go.Proofs.YtmlpjffnmkndoaaGreatDoor
open Go.RowKit
set_option linter.unusedVariables false
set_option linter.unusedSimpArgs false
/-- The weights as a list. -/
noncomputable def wsL (l : List Psn) (n : Nat) : List Rat := (List.range n).map (wgtQ l)
theorem wsL_len {l : List Psn} {n : Nat} : (wsL l n).length = n := by simp [wsL]
theorem wsL_get {l : List Psn} {n j : Nat} (h : j < n) : (wsL l n).getD j 0 = wgtQ l j := by simp [wsL, h]
theorem fxw_L {N : Nat} (hN : N = 1000000000000) {l : List Psn} {n : Nat} (hn : l.length = n) : (wsL l n).map (Fx.mk (N := N) (D := N)) = l.map (fun p => Fx.mk (ratX p.1.1 p.1.2)) := by
  subst hn
  apply List.ext_getElem
  · simp [wsL]
  · intro i h1 h2
    simp [wsL] at h1
    simp [wsL, wgtQ, h1]
theorem rxw_L {N : Nat} (hN : N = 1000000000000) {l : List Psn} {n : Nat} (hn : l.length = n) : (wsL l n).map (Rx.mk (N := N) (D := N)) = l.map (fun p => Rx.mk (ratX p.1.1 p.1.2)) := by
  subst hn
  apply List.ext_getElem
  · simp [wsL]
  · intro i h1 h2
    simp [wsL] at h1
    simp [wsL, wgtQ, h1]
theorem celQ_congr {w v : Nat → Rat} {l : List Psn} {mi : Nat} {c : Int} {n : Nat} (h : ∀ j, j < n → w j = v j) : ∀ k, k ≤ n → celQ w l mi c k = celQ v l mi c k := by
  intro k
  induction k with
  | zero => exact fun _ => rfl
  | succ k ih =>
    intro hk
    by_cases e : celI l mi k = c
    · rw [celQ_yes e, celQ_yes e, ih (by omega), h k (by omega)]
    · rw [celQ_no e, celQ_no e, ih (by omega)]
theorem celR_L {m : List Mgn} {l : List Psn} {mi nt n : Nat} (hn : l.length = n) (hnt : (m.getD mi mgn0).2.length = nt) : celR (wsL l n) l mi nt n = celL (wgtQ l) m l mi := by
  subst hn hnt
  unfold celR celL
  refine List.map_congr_left (fun c _ => ?_)
  exact celQ_congr (n := l.length) (fun j hj => wsL_get hj) _ (Nat.le_refl _)
/-- What people that pass are. -/
theorem ppmF_cells {m : List Mgn} {l : List Psn} {nm n : Nat} (hm : m.length = nm) (hn : l.length = n) (h : ppmF m l = 0) : nm ≤ 8 ∧ n ≤ 3000 ∧ (∀ p ∈ l, shoF p.1.1 p.1.2 = 0) ∧ (∀ i, i < nm → (m.getD i mgn0).2.length ≤ 40) ∧ ∀ i, i < nm → ∀ j, j < n → i < (l.getD j psn0).2.1.length ∧ ∃ c : Nat, c < (m.getD i mgn0).2.length ∧ celI l i j = (c : Int) := by
  subst hm hn
  obtain ⟨h1, h2, h3⟩ := ppmF_ok h
  obtain ⟨h4, h5, _⟩ := mgsF_ok h1
  refine ⟨h4, h2, fun p hp => ?_, fun i hi => (ttsF_ok (mgnF_ok (h5 i hi)).2).2.1, fun i hi j hj => ?_⟩
  · obtain ⟨k, hk, rfl⟩ := List.getElem_of_mem hp
    have := (psmF_ok (h3 k hk)).1
    rwa [getD_elem0 _ _ _ hk] at this
  · obtain ⟨e1, e2⟩ := celM_ok (psmF_ok (h3 j hj)).2.2
    obtain ⟨e3, e4⟩ := e2 i hi
    refine ⟨by omega, (celI l i j).toNat, ?_, ?_⟩
    · unfold celI; omega
    · unfold celI; omega
section
variable {m : List Mgn} {l : List Psn} {n k : Nat}
theorem smsR_bad {f : Int} (h : ppmF m l = f) (hf : f ≠ 0) : smsR m l = ([], f) := by
  unfold smsR; rw [h, if_pos hf]
theorem smsR_stop (h0 : ppmF m l = 0) (hm : m.length = n) (hk : k < n) (hz : ∀ i, i < k → smsF m l i = 0) {g : Int} (hg : smsF m l k = g) (hne : g ≠ 0) : smsR m l = ([], g) := by
  subst hm
  have e := scan_stop (f := smsF m l) hz hk (by rw [hg]; exact hne)
  unfold smsR
  rw [h0, if_neg (by simp), e, hg, if_pos hne]
theorem smsR_ok (h0 : ppmF m l = 0) (hm : m.length = n) (hz : ∀ i, i < n → smsF m l i = 0) : smsR m l = ((List.range n).map (smsM m l), 0) := by
  subst hm
  unfold smsR
  rw [h0, if_neg (by simp), scan_zero _ _ hz, if_neg (by simp)]
end
theorem shtR_len {xs : List Rat} {L : List Rti} {g : Int} (h : shtR xs = (L, g)) (hg : g = 0) : L.length = xs.length := by
  unfold shtR at h
  split at h
  · obtain ⟨rfl, _⟩ := Prod.mk.inj h; simp
  · next hne => obtain ⟨_, e⟩ := Prod.mk.inj h; exact absurd (e.trans hg) hne
/-- The bounds that sums of n weights want. -/
def SmB (M N n : Nat) : Prop := n * N * N ^ n ≤ M ∧ N ^ n ≤ M
theorem slMg : SliceTy Tryz.prog 22 30 (.agg #[.string ⟨#[]⟩, .slice none 0 0]) (Rep.size Mgn) 40 := ⟨Tryz.underlying22, by kernel_rfl, rfl, (show 0 < 2 by decide), by decide⟩
set_option maxRecDepth 100000 in
set_option maxHeartbeats 4000000 in
theorem Sums_any {M : Nat} (hD : Hid (DivOk M)) (hM : LenB M) (hM2 : p10 2000 ≤ M) {N : Nat} (hN : Hid (N = 1000000000000)) {mm : List Mgn} {nm cm : Nat} {am : Option Addr} {n : Nat} (hB : Hid (n ≤ 3000 → SmB M N n)) {a : Option Addr} {cap : Nat} {l : List Psn} {w : World} {φ : Phi} (hφ : Fz φ w) (hp : PowP φ) (sm : SlV φ am cm mm) (hnm : Hid (mm.length = nm)) (hgm : Hid (∀ x ∈ mm, MgnG x)) (sl : SlV φ a cap l) (hn : Hid (l.length = n)) (hsz : Hid (∀ p ∈ l, PsnG p)) {L : List Mgn} {F : Int} (hR : Hid (smsR mm l = (L, F))) :
    Calls Tryz.prog 18 #[.slice am nm cm, .slice a n cap] w (SlPost (L, F) φ w) := by
  have HM2 := Lib.hid hM2
  have HP := Lib.hid hp
  have HSM := Lib.hid sm
  have HSL := Lib.hid sl
  have hnl : n ≤ 9223372036854775807 := by have := sl.capn; have := sl.capm; rw [hn.out] at *; unfold maxLen at *; omega
  have hnml : nm ≤ 9223372036854775807 := by have := sm.capn; have := sm.capm; rw [hnm.out] at *; unfold maxLen at *; omega
  have HI : Hid (Inv w.heap.size w φ φ w) := Lib.hid (Inv.start hφ)
  obtain ⟨f, hf⟩ : ∃ x, Hid (ppmF mm l = x) := ⟨_, Lib.hid rfl⟩
  clear hM2 hφ hp sm sl
  by_cases hf0 : f = 0
  case neg =>
    have HQ := Lib.hid (hR.out.symm.trans (smsR_bad hf.out hf0))
    have h0i : (f == 0) = false := by simp [hf0]
    have h0j : (f != 0) = true := by simp [hf0]
    clear hf0
    go_enter Tryz.func18, Tryz.ntmps18
    go_wp2_with (go_at_call 22; (with_reducible refine (CheckPeople_any hD hM HM2.out HI.out.fz HSM.out hnm hgm HSL.out hn hsz hf).mono ?_); rintro e w1 ⟨rfl, hb1⟩; have I1 := Lib.hid (HI.out.callB hb1); clear hb1)
    go_ret2
    obtain ⟨rfl, rfl⟩ := Prod.mk.inj HQ.out
    exact ⟨none, 0, φ, rfl, I1.out, SlV.empty φ⟩
  case pos =>
  subst hf0
  obtain ⟨q1, q2, q3, q4, q5⟩ := ppmF_cells hnm.out hn.out hf.out
  have hnm8 := q1
  have hn3 := q2
  have hok := Lib.hid q3
  have hnt := Lib.hid q4
  have hcel := Lib.hid q5
  obtain ⟨b1, b2⟩ := hB.out hn3
  have hN1 : 1 ≤ N := by rw [hN.out]; decide
  have HW : Hid (∀ (ψ : Phi) (W : World), Fz ψ W → φ.le ψ → Calls Tryz.prog 33 #[.slice a n cap] W (SlPost1 ((wsL l n).map (Fx.mk (N := N) (D := N))) ψ W)) := Lib.hid (by
    have e := hN.out
    subst e
    intro ψ W hf hl
    have := weightsOf_any hD HM2.out hf (HSL.out.mono hl) hn hn3 hsz hok
    rwa [fxw_L rfl hn.out])
  have hwl : Hid (((wsL l n).map (Fx.mk (N := N) (D := N))).length = n) := Lib.hid (by rw [List.length_map, wsL_len])
  have hcs := Lib.hid (fun (k : Nat) (hk : k < nm) (aw : Option Addr) (cw nt : Nat) (ψ : Phi) (W : World) (hf : Fz ψ W) (hl : φ.le ψ) (hnt9 : Hid ((mm.getD k mgn0).2.length = nt)) (sw : SlV ψ aw cw ((wsL l n).map (Fx.mk (N := N) (D := N)))) => cellSums_any hD hM hN1 b1 b2 hf (HSM.out.mono hl) hnm hk hnt9 (HSL.out.mono hl) hn sw (Lib.hid wsL_len) hn3 (by rw [← hnt9.out]; exact hnt.out k hk) (by omega) (Lib.hid (fun j hj => by rw [← hnt9.out]; exact hcel.out k hk j hj)))
  have hrt := Lib.hid (fun (xs : List Rat) (nt : Nat) (hxs : xs.length = nt) (hnt : nt ≤ 40) (L : List Rti) (F : Int) (hR : Hid (shtR xs = (L, F))) (aw : Option Addr) (cw : Nat) (ψ : Phi) (W : World) (hf : Fz ψ W) (hl : φ.le ψ) (sw : SlV ψ aw cw (xs.map (Fx.mk (N := n * N * N ^ n) (D := N ^ n)))) => Ratios_any hD hM b1 b2 hf (HP.out.mono hl) sw (Lib.hid hxs) (by omega) hR)
  obtain ⟨NB, hNB⟩ : ∃ x, n * N * N ^ n = x := ⟨_, rfl⟩
  obtain ⟨DB, hDB⟩ : ∃ x, N ^ n = x := ⟨_, rfl⟩
  rw [hNB, hDB] at hcs hrt
  clear q1 q2 q3 q4 q5 hB b1 b2 hNB hDB
  go_enter Tryz.func18, Tryz.ntmps18
  go_upto_region 5 with (first
    | (go_at_call 33; (with_reducible refine (HW.out φ _ I1.out.fz φ.le_refl).mono ?_); rintro e w2 ⟨aw, cw, φ2, rfl, hi2, s2⟩; rw [hwl.out]; have I2 := Lib.hid (I1.out.call hi2); have S2 := Lib.hid s2; clear hi2 s2)
    | (go_at_call 22; (with_reducible refine (CheckPeople_any hD hM HM2.out HI.out.fz HSM.out hnm hgm HSL.out hn hsz hf).mono ?_); rintro e w1 ⟨rfl, hb1⟩; have I1 := Lib.hid (HI.out.callB hb1); clear hb1))
  clear HW I1
  have hS0 : Hid (OwG w φ φ2 30 none 0 ([] : List Mgn) w2) := Lib.hid ⟨I2.out, Own.nil _ _ _ _⟩
  go_wp2
  go_loopw [8, 23] (fun ov iv wr => ∃ (k : Nat) (ao : Option Addr) (co : Nat) (os : List Mgn) (φ' : Phi), k ≤ nm ∧ iv = .int .i64 (k : Int) ∧ ov = .slice ao k co ∧ Hid (os.length = k) ∧ Hid (os = (List.range k).map (smsM mm l)) ∧ Hid (∀ i, i < k → smsF mm l i = 0) ∧ Hid (φ2.le φ') ∧ Hid (OwG w φ φ' 30 ao co os wr)) (fun _ iv _ => nm - (intOf iv).toNat)
  case atStart => exact ⟨0, none, 0, [], φ2, Nat.zero_le _, rfl, rfl, Lib.hid rfl, Lib.hid rfl, none_yet _, Lib.hid φ2.le_refl, hS0⟩
  case round =>
    clear hS0
    obtain ⟨k, ao, co, os, φ', hk, rfl, rfl, hol, hL, hz, hle, hS⟩ := hrel
    by_cases hlt : k < nm
    · have hlti : (k : Int) < (nm : Int) := by omega
      obtain ⟨b, off, rfl, fc⟩ := HSM.out.mgnsD hnm hlt
      obtain ⟨ar, cr, sk, f2⟩ := fc k hlt
      obtain ⟨c1, c2⟩ := f2 wr (hS.out.inv.fz.sub hS.out.inv.le)
      obtain ⟨nt, hnt9⟩ : ∃ x, Hid ((mm.getD k mgn0).2.length = x) := ⟨_, Lib.hid rfl⟩
      rw [hnt9.out] at c2
      have hnt40 : nt ≤ 40 := by rw [← hnt9.out]; exact hnt.out k hlt
      have hC := Lib.hid (hcs.out k hlt)
      obtain ⟨Lk, hLk⟩ : ∃ x, (shtR (celR (wsL l n) l k nt n)).1 = x := ⟨_, rfl⟩
      obtain ⟨g, hg⟩ : ∃ x, (shtR (celR (wsL l n) l k nt n)).2 = x := ⟨_, rfl⟩
      have hsh : Hid (shtR (celR (wsL l n) l k nt n) = (Lk, g)) := Lib.hid (by rw [← hLk, ← hg])
      have hsf : smsF mm l k = g := by unfold smsF; rw [← celR_L hn.out hnt9.out]; exact hg
      have hsm : smsM mm l k = ((mm.getD k mgn0).1, Lk) := by unfold smsM; rw [← celR_L hn.out hnt9.out, hLk]
      have hst := Lib.hid (fun (e : g ≠ 0) => smsR_stop hf.out hnm.out hlt hz.out hsf e)
      rw [hR.out] at hst
      have hnx := Lib.hid (fun (e : g = 0) => next_ok (f := smsF mm l) hz (by rw [hsf, e]))
      generalize (mm.getD k mgn0).1 = nk at *
      have hnx2 : Hid (os ++ [(nk, Lk)] = (List.range (k + 1)).map (smsM mm l)) := Lib.hid (by
        rw [hL.out, List.range_succ, List.map_append, ← hsm]; rfl)
      obtain ⟨φp, lp, ip, ep⟩ := (Inv.start hS.out.inv.fz).frz (.cells #[.string nk, .slice ar nt cr] 30)
      have hS1 := Lib.hid (hS.out.call ip)
      have LP := Lib.hid (hle.out.trans lp)
      have EP := Lib.hid ep
      clear fc f2 sk hS ip ep lp hLk hg hsf hsm hle
      go_upto_region 9 with fail
      generalize wr.alloc (.cells #[.string nk, .slice ar nt cr] 30) = wz at *
      generalize wr.heap.size = b5 at *
      clear c1 c2
      have HR9 := Lib.hid (hrt.out (celR (wsL l n) l k nt n) nt (by simp [celR]) hnt40 Lk g hsh)
      have hcl : Hid ((celR (wsL l n) l k nt n).length = nt) := Lib.hid (by simp [celR])
      clear hcs hrt
      go_upto_region 10 with (first
        | (go_at_call 31; (with_reducible refine (HR9.out _ _ _ _ hS2.out.inv.fz hS2.out.inv.le SS2.out).mono ?_); rintro e w4 ⟨aT, cT, φ4, rfl, hi4, s4⟩; have hS4 := Lib.hid (hS2.out.call hi4); have SS4 := Lib.hid s4; have L4 := Lib.hid (L2.out.trans hi4.le); have EP4 := Lib.hid ((L3.out.trans hi4.le) _ _ EP.out); have y0 : w4.cell? ⟨b5, 0, none⟩ = some (.string nk) := box_cell EP4.out φ4.le_refl hS4.out.inv.fz 0; clear hi4 s4)
        | (go_at_call 53; (with_reducible refine (hC.out _ _ nt _ _ hS1.out.inv.fz hS1.out.inv.le hnt9 (S2.out.mono LP.out)).mono ?_); rintro e w3 ⟨a3, c3, φ3, rfl, hi3, s3⟩; rw [List.length_map, hcl.out]; have hS2 := Lib.hid (hS1.out.call hi3); have SS2 := Lib.hid s3; have L2 := Lib.hid (LP.out.trans hi3.le); have L3 := Lib.hid hi3.le; clear hi3 s3))
      by_cases hg0 : g = 0
      · have hgg : ((g : Int) != 0) = false := by simp [hg0]
        have hn2 := hnx.out hg0
        have hLn : Hid (Lk.length = nt) := Lib.hid (by exact (shtR_len hsh.out hg0).trans hcl.out)
        rw [hLn.out]
        have hin := Lib.hid hS4.out.inv
        have hon := Lib.hid hS4.out.own
        have HREP : Hid (Rep.rep φ4 ((nk, Lk) : Mgn) [.string nk, .slice aT nt cT]) := Lib.hid ⟨[.string nk], [.slice aT nt cT], rfl, rfl, aT, cT, by rw [hLn.out], SS4.out⟩
        clear hg0 hst hnx
        go_wp2_with (at_builtin; (refine wpList_app1F (α := Mgn) rfl _ _ 22 rfl slMg hin.out ao co os hon.out #[.string nk, .slice aT nt cT] 30 (nk, Lk) HREP.out (by rw [hol.out]; rfl) 1 rfl (by rw [hol.out]; omega) ?_; intro a9 c9 w9 hi9 ho9 hg9 hf9; rw [show (os ++ [((nk, Lk) : Mgn)]).length = k + 1 from by rw [List.length_append, hol.out]; rfl]))
        go_roundw
        case rel => exact ⟨k + 1, a9, c9, os ++ [(nk, Lk)], φ4, by omega, by go_num, rfl, Lib.hid (by rw [List.length_append, hol.out]; rfl), hnx2, hn2, L4, Lib.hid ⟨hi9, ho9⟩⟩
        case measure => (simp [intOf] <;> omega)
      · have hgg : ((g : Int) != 0) = true := by simp [hg0]
        have HQ := Lib.hid (hst.out hg0)
        clear hg0 hst hnx
        go_wp2
        go_ret2
        obtain ⟨rfl, rfl⟩ := Prod.mk.inj HQ.out
        exact ⟨none, 0, φ, rfl, (Inv.start HI.out.fz).callB hS4.out.inv.bel, SlV.empty φ⟩
    · obtain rfl : k = nm := by omega
      have HQ := Lib.hid (hR.out.symm.trans (smsR_ok hf.out hnm.out hz.out))
      obtain ⟨φ3, hl3, hi3, hs3, _⟩ := hS.out.own.release hS.out.inv
      have HI3 := Lib.hid hi3
      have HS3 := Lib.hid hs3
      clear hi3 hs3 hS hl3
      go_wp2
      go_ret2
      obtain ⟨rfl, rfl⟩ := Prod.mk.inj HQ.out
      refine ⟨ao, co, φ3, ?_, HI3.out, ?_⟩
      · simp
      · have := HS3.out
        rwa [hL.out] at this
end Go.Proofs.YtmlpjffnmkndoaaGreatDoor

namespace Go.Proofs.YtmlpjffnmkndoaaGreatDoor
open Go.RowKit
set_option linter.unusedVariables false
set_option linter.unusedSimpArgs false
set_option maxRecDepth 100000 in
set_option maxHeartbeats 4000000 in
theorem RSums_any {M : Nat} (hD : Hid (RdivOk M)) (hM : LenB M) (hM2 : p10 2000 ≤ M) {N : Nat} (hN : Hid (N = 1000000000000)) {mm : List Mgn} {nm cm : Nat} {am : Option Addr} {n : Nat} (hB : Hid (n ≤ 3000 → SmB M N n)) {a : Option Addr} {cap : Nat} {l : List Psn} {w : World} {φ : Phi} (hφ : Fz φ w) (hp : PowP φ) (htp : TabP φ) (sm : SlV φ am cm mm) (hnm : Hid (mm.length = nm)) (hgm : Hid (∀ x ∈ mm, MgnG x)) (sl : SlV φ a cap l) (hn : Hid (l.length = n)) (hsz : Hid (∀ p ∈ l, PsnG p)) {L : List Mgn} {F : Int} (hR : Hid (smsR mm l = (L, F))) :
    Calls Tryz.prog 19 #[.slice am nm cm, .slice a n cap] w (SlPost (L, F) φ w) := by
  have HM2 := Lib.hid hM2
  have HP := Lib.hid hp
  have HTP := Lib.hid htp
  have HSM := Lib.hid sm
  have HSL := Lib.hid sl
  have hnl : n ≤ 9223372036854775807 := by have := sl.capn; have := sl.capm; rw [hn.out] at *; unfold maxLen at *; omega
  have hnml : nm ≤ 9223372036854775807 := by have := sm.capn; have := sm.capm; rw [hnm.out] at *; unfold maxLen at *; omega
  have HI : Hid (Inv w.heap.size w φ φ w) := Lib.hid (Inv.start hφ)
  obtain ⟨f, hf⟩ : ∃ x, Hid (ppmF mm l = x) := ⟨_, Lib.hid rfl⟩
  clear hM2 hφ hp htp sm sl
  by_cases hf0 : f = 0
  case neg =>
    have HQ := Lib.hid (hR.out.symm.trans (smsR_bad hf.out hf0))
    have h0i : (f == 0) = false := by simp [hf0]
    have h0j : (f != 0) = true := by simp [hf0]
    clear hf0
    go_enter Tryz.func19, Tryz.ntmps19
    go_wp2_with (go_at_call 23; (with_reducible refine (RCheckPeople_any hD hM HM2.out HI.out.fz HP.out HTP.out HSM.out hnm hgm HSL.out hn hsz hf).mono ?_); rintro e w1 ⟨rfl, hb1⟩; have I1 := Lib.hid (HI.out.callB hb1); clear hb1)
    go_ret2
    obtain ⟨rfl, rfl⟩ := Prod.mk.inj HQ.out
    exact ⟨none, 0, φ, rfl, I1.out, SlV.empty φ⟩
  case pos =>
  subst hf0
  obtain ⟨q1, q2, q3, q4, q5⟩ := ppmF_cells hnm.out hn.out hf.out
  have hnm8 := q1
  have hn3 := q2
  have hok := Lib.hid q3
  have hnt := Lib.hid q4
  have hcel := Lib.hid q5
  obtain ⟨b1, b2⟩ := hB.out hn3
  have hN1 : 1 ≤ N := by rw [hN.out]; decide
  have HW : Hid (∀ (ψ : Phi) (W : World), Fz ψ W → φ.le ψ → Calls Tryz.prog 56 #[.slice a n cap] W (SlPost1 ((wsL l n).map (Rx.mk (N := N) (D := N))) ψ W)) := Lib.hid (by
    have e := hN.out
    subst e
    intro ψ W hf hl
    have := Rweights_any hf (HSL.out.mono hl) hn hn3 hok
    rwa [rxw_L rfl hn.out])
  have hwl : Hid (((wsL l n).map (Rx.mk (N := N) (D := N))).length = n) := Lib.hid (by rw [List.length_map, wsL_len])
  have hcs := Lib.hid (fun (k : Nat) (hk : k < nm) (nk : ByteArray) (ar : Option Addr) (cr : Nat) (aw : Option Addr) (cw nt : Nat) (ψ : Phi) (W : World) (hf : Fz ψ W) (hl : φ.le ψ) (hnt9 : Hid ((mm.getD k mgn0).2.length = nt)) (sw : SlV ψ aw cw ((wsL l n).map (Rx.mk (N := N) (D := N)))) => Rsums_any (nm := nk) (ar := ar) (cr := cr) (nt := nt) (mi := k) hD hM hN1 b1 b2 hf (HSL.out.mono hl) hn sw (Lib.hid wsL_len) hn3 (by rw [← hnt9.out]; exact hnt.out k hk) (by omega : k ≤ 8) (Lib.hid (fun j hj => by rw [← hnt9.out]; exact hcel.out k hk j hj)))
  have hrt := Lib.hid (fun (xs : List Rat) (nt : Nat) (hxs : xs.length = nt) (hnt : nt ≤ 40) (L : List Rti) (F : Int) (hR : Hid (shtR xs = (L, F))) (aw : Option Addr) (cw : Nat) (ψ : Phi) (W : World) (hf : Fz ψ W) (hl : φ.le ψ) (sw : SlV ψ aw cw (xs.map (Rx.mk (N := n * N * N ^ n) (D := N ^ n)))) => Rshut_any hD hM b1 b2 hf (HP.out.mono hl) sw (Lib.hid hxs) (by omega) hR)
  obtain ⟨NB, hNB⟩ : ∃ x, n * N * N ^ n = x := ⟨_, rfl⟩
  obtain ⟨DB, hDB⟩ : ∃ x, N ^ n = x := ⟨_, rfl⟩
  rw [hNB, hDB] at hcs hrt
  clear q1 q2 q3 q4 q5 hB b1 b2 hNB hDB
  go_enter Tryz.func19, Tryz.ntmps19
  go_upto_region 4 with (go_at_call 23; (with_reducible refine (RCheckPeople_any hD hM HM2.out HI.out.fz HP.out HTP.out HSM.out hnm hgm HSL.out hn hsz hf).mono ?_); rintro e w2 ⟨rfl, hb1⟩; have I2 := Lib.hid (HI.out.callB hb1); clear hb1)
  have hS0 : Hid (OwR w φ φ 30 none 0 ([] : List Mgn) w2) := Lib.hid ⟨I2.out, Own.nil _ _ _ _⟩
  go_wp2
  go_loopw [7, 20] (fun ov iv wr => ∃ (k : Nat) (ao : Option Addr) (co : Nat) (os : List Mgn) (φ' : Phi), k ≤ nm ∧ iv = .int .i64 (k : Int) ∧ ov = .slice ao k co ∧ Hid (os.length = k) ∧ Hid (os = (List.range k).map (smsM mm l)) ∧ Hid (∀ i, i < k → smsF mm l i = 0) ∧ Hid (OwR w φ φ' 30 ao co os wr)) (fun _ iv _ => nm - (intOf iv).toNat)
  case atStart => exact ⟨0, none, 0, [], φ, Nat.zero_le _, rfl, rfl, Lib.hid rfl, Lib.hid rfl, none_yet _, hS0⟩
  case round =>
    clear hS0
    obtain ⟨k, ao, co, os, φ', hk, rfl, rfl, hol, hL, hz, hS⟩ := hrel
    by_cases hlt : k < nm
    · have hlti : (k : Int) < (nm : Int) := by omega
      obtain ⟨b, off, rfl, fc⟩ := HSM.out.mgnsD hnm hlt
      obtain ⟨ar, cr, sk, f2⟩ := fc k hlt
      obtain ⟨c1, c2⟩ := f2 wr (hS.out.inv.fz.sub hS.out.inv.le)
      obtain ⟨nt, hnt9⟩ : ∃ x, Hid ((mm.getD k mgn0).2.length = x) := ⟨_, Lib.hid rfl⟩
      rw [hnt9.out] at c2
      have hnt40 : nt ≤ 40 := by rw [← hnt9.out]; exact hnt.out k hlt
      have hC := Lib.hid (hcs.out k hlt (mm.getD k mgn0).1 ar cr)
      obtain ⟨Lk, hLk⟩ : ∃ x, (shtR (celR (wsL l n) l k nt n)).1 = x := ⟨_, rfl⟩
      obtain ⟨g, hg⟩ : ∃ x, (shtR (celR (wsL l n) l k nt n)).2 = x := ⟨_, rfl⟩
      have hsh : Hid (shtR (celR (wsL l n) l k nt n) = (Lk, g)) := Lib.hid (by rw [← hLk, ← hg])
      have hsf : smsF mm l k = g := by unfold smsF; rw [← celR_L hn.out hnt9.out]; exact hg
      have hsm : smsM mm l k = ((mm.getD k mgn0).1, Lk) := by unfold smsM; rw [← celR_L hn.out hnt9.out, hLk]
      have hst := Lib.hid (fun (e : g ≠ 0) => smsR_stop hf.out hnm.out hlt hz.out hsf e)
      rw [hR.out] at hst
      have hnx := Lib.hid (fun (e : g = 0) => next_ok (f := smsF mm l) hz (by rw [hsf, e]))
      generalize (mm.getD k mgn0).1 = nk at *
      have hnx2 : Hid (os ++ [(nk, Lk)] = (List.range (k + 1)).map (smsM mm l)) := Lib.hid (by
        rw [hL.out, List.range_succ, List.map_append, ← hsm]; rfl)
      obtain ⟨φp, lp, ip, ep⟩ := (Inv.start hS.out.inv.fz).frz (.cells #[.string nk, .slice ar nt cr] 30)
      have hS1 := Lib.hid (hS.out.call ip)
      have EP := Lib.hid ep
      clear fc f2 sk hS ip ep lp hLk hg hsf hsm
      go_upto_region 8 with fail
      generalize wr.alloc (.cells #[.string nk, .slice ar nt cr] 30) = wz at *
      generalize wr.heap.size = b5 at *
      clear c1 c2
      have HR9 := Lib.hid (hrt.out (celR (wsL l n) l k nt n) nt (by simp [celR]) hnt40 Lk g hsh)
      have hcl : Hid ((celR (wsL l n) l k nt n).length = nt) := Lib.hid (by simp [celR])
      clear hcs hrt
      have HSd : Hid (OwR w φ φp 30 ao co os wz.drew) := Lib.hid (hS1.out.callB (bdrewN (Below.refl _ wz) 1))
      have x0' : wz.drew.cell? ⟨b5, 0, none⟩ = some (.string nk) := box_cell EP.out φp.le_refl HSd.out.inv.fz 0
      have x1' : wz.drew.cell? ⟨b5, 1, none⟩ = some (.slice ar nt cr) := box_cell EP.out φp.le_refl HSd.out.inv.fz 1
      have hcf := Lib.hid (fun (ψ : Phi) (W : World) (hs : Inv w.heap.size w φ ψ W) (hl : φp.le ψ) => (⟨box_cell EP.out hl hs.fz 0, box_cell EP.out hl hs.fz 1⟩ : W.cell? ⟨b5, 0, none⟩ = some (.string nk) ∧ W.cell? ⟨b5, 1, none⟩ = some (.slice ar nt cr)))
      go_region_held3 (fun w' => w'.cell? ⟨b5, 0, none⟩ = some (.string nk) ∧ w'.cell? ⟨b5, 1, none⟩ = some (.slice ar nt cr)) (first | done | with_reducible exact ⟨x0', x1'⟩ | with_reducible exact ⟨by assumption, by assumption⟩ | fail) (first
        | ((with_reducible refine (HR9.out _ _ _ _ hS2.out.inv.fz hS2.out.inv.le SS2.out).mono ?_); rintro e w4 ⟨aT, cT, φ4, rfl, hi4, s4⟩; have hS4 := Lib.hid (hS2.out.call hi4); have SS4 := Lib.hid s4; have L4 := Lib.hid (L2.out.trans hi4.le); obtain ⟨z0, z1⟩ := hcf.out φ4 w4 hS4.out.inv L4.out; clear hi4 s4)
        | ((with_reducible refine (hC.out _ _ nt _ _ HS3.out.inv.fz HS3.out.inv.le hnt9 S3.out).mono ?_); rintro e w3 ⟨a3, c3, φ3, rfl, hi3, s3⟩; rw [List.length_map, hcl.out]; have hS2 := Lib.hid (HS3.out.call hi3); have SS2 := Lib.hid s3; have L2 := Lib.hid (L1.out.trans hi3.le); obtain ⟨y0, y1⟩ := hcf.out φ3 w3 hS2.out.inv L2.out; clear hi3 s3)
        | ((with_reducible refine (HW.out _ _ HSd.out.inv.fz HSd.out.inv.le).mono ?_); rintro e w1 ⟨aw, cw, φ1, rfl, hi1, s1⟩; rw [hwl.out]; have HS3 := Lib.hid (HSd.out.call hi1); have S3 := Lib.hid s1; have L1 := Lib.hid hi1.le; obtain ⟨q0, q1⟩ := hcf.out φ1 w1 HS3.out.inv L1.out; clear hi1 s1)
        | fail)
      by_cases hg0 : g = 0
      · have hgg : ((g : Int) != 0) = false := by simp [hg0]
        have hn2 := hnx.out hg0
        have hLn : Hid (Lk.length = nt) := Lib.hid (by exact (shtR_len hsh.out hg0).trans hcl.out)
        rw [hLn.out]
        have hin := Lib.hid hS4.out.inv
        have hon := Lib.hid hS4.out.own
        have HREP : Hid (Rep.rep φ4 ((nk, Lk) : Mgn) [.string nk, .slice aT nt cT]) := Lib.hid ⟨[.string nk], [.slice aT nt cT], rfl, rfl, aT, cT, by rw [hLn.out], SS4.out⟩
        clear hg0 hst hnx
        go_wp2_with (at_builtin; (refine wpList_app1F (α := Mgn) rfl _ _ 22 rfl slMg hin.out ao co os hon.out #[.string nk, .slice aT nt cT] 30 (nk, Lk) HREP.out (by rw [hol.out]; rfl) 1 rfl (by rw [hol.out]; omega) ?_; intro a9 c9 w9 hi9 ho9 hg9 hf9; rw [show (os ++ [((nk, Lk) : Mgn)]).length = k + 1 from by rw [List.length_append, hol.out]; rfl]))
        go_roundw
        case rel => exact ⟨k + 1, a9, c9, os ++ [(nk, Lk)], φ4, by omega, by go_num, rfl, Lib.hid (by rw [List.length_append, hol.out]; rfl), hnx2, hn2, Lib.hid ⟨hi9, ho9⟩⟩
        case measure => (simp [intOf] <;> omega)
      · have hgg : ((g : Int) != 0) = true := by simp [hg0]
        have HQ := Lib.hid (hst.out hg0)
        clear hg0 hst hnx
        go_wp2
        go_ret2
        obtain ⟨rfl, rfl⟩ := Prod.mk.inj HQ.out
        exact ⟨none, 0, φ, rfl, (Inv.start HI.out.fz).callB hS4.out.inv.bel, SlV.empty φ⟩
    · obtain rfl : k = nm := by omega
      have HQ := Lib.hid (hR.out.symm.trans (smsR_ok hf.out hnm.out hz.out))
      obtain ⟨φ3, hl3, hi3, hs3, _⟩ := hS.out.own.release hS.out.inv
      have HI3 := Lib.hid hi3
      have HS3 := Lib.hid hs3
      clear hi3 hs3 hS hl3
      go_wp2
      go_ret2
      obtain ⟨rfl, rfl⟩ := Prod.mk.inj HQ.out
      refine ⟨ao, co, φ3, ?_, HI3.out, ?_⟩
      · simp
      · have := HS3.out
        rwa [hL.out] at this
end Go.Proofs.YtmlpjffnmkndoaaGreatDoor

namespace Go.Proofs.YtmlpjffnmkndoaaGreatDoor
open Go.RowKit
set_option linter.unusedVariables false
set_option linter.unusedSimpArgs false
set_option maxHeartbeats 1000000 in
theorem sameMargin_t {w : World} {φ : Phi} (hφ : Fz φ w) {nm : ByteArray} {L : List Rti} {n : Nat} (hn : Hid (L.length = n)) (hm : n ≤ 9223372036854775807) {a1 a2 : Option Addr} {c1 c2 : Nat} (s1 : SlV φ a1 c1 L) (s2 : SlV φ a2 c2 L) :
    Calls Tryz.prog 25 #[.agg #[.string nm, .slice a1 n c1], .agg #[.string nm, .slice a2 n c2]] w (fun e w' => e = .returned (.bool true) ∧ Below w.heap.size w w') := by
  have hI := Lib.hid (((Inv.start hφ).alloc (.cells #[.string nm, .slice a1 n c1] 30)).alloc (.cells #[.string nm, .slice a2 n c2] 30))
  have hss : (nm == nm) = true := by simp
  go_enter Tryz.func25, Tryz.ntmps25
  go_wp2_with (go_at_call 27; (with_reducible refine (EqualR_same n _ _ L _ _ _ _ hI.out.fz s1 hn hm s2).mono ?_); rintro e w3 ⟨rfl, hb3⟩; have I3 := Lib.hid (hI.out.callB hb3); clear hb3)
  go_ret
  exact ⟨rfl, I3.out.bel⟩
set_option maxHeartbeats 1000000 in
theorem EqualMg_t (n : Nat) (a1 : Option Addr) (c1 : Nat) (xs : List Mgn) (a2 : Option Addr) (c2 : Nat) (w : World) (φ : Phi) (hφ : Fz φ w) (s1 : SlV φ a1 c1 xs) (hn : Hid (xs.length = n)) (hm : n ≤ 9223372036854775807) (s2 : SlV φ a2 c2 xs) :
    Calls Tryz.prog 24 #[.slice a1 n c1, .slice a2 n c2, .func (.func 25) #[] #[]] w (fun e w' => e = .returned (.bool true) ∧ Below w.heap.size w w') := by
  have hb1 : ((n : Int) != n) = false := by simp
  go_enter Tryz.func24, Tryz.ntmps24
  go_wp2
  clear hb1
  go_loopw [17] (fun i wr => ∃ k : Nat, k ≤ n ∧ i = .int .i64 k ∧ Hid (Below w.heap.size w wr)) (fun i _ => n - (intOf i).toNat)
  case atStart => exact ⟨0, Nat.zero_le _, rfl, Lib.hid (Below.refl _ _)⟩
  case round =>
    obtain ⟨k, hk, rfl, hB⟩ := hrel
    by_cases hlt : k < n
    · obtain ⟨b1, o1, rfl, f1⟩ := s1.mgnsD hn hlt
      obtain ⟨x1, x2, t1, f1⟩ := f1 k hlt
      obtain ⟨d0, d1⟩ := f1 wr (hφ.below hB.out)
      obtain ⟨b2, o2, rfl, f2⟩ := s2.mgnsD hn hlt
      obtain ⟨y1, y2, u1, f2⟩ := f2 k hlt
      generalize xs.getD k mgn0 = q at *
      obtain ⟨nk, Lk⟩ := q
      dsimp only at t1 u1 d0 d1 f2
      obtain ⟨nr, hnr⟩ : ∃ j, Hid (Lk.length = j) := ⟨_, Lib.hid rfl⟩
      rw [hnr.out] at d1 f2
      have hnr9 : nr ≤ 9223372036854775807 := by have h1 := t1.capn; have h2 := t1.capm; rw [hnr.out] at h1; unfold maxLen at h2; omega
      obtain ⟨e0, e1⟩ := f2 (wr.alloc (.cells #[.string nk, .slice x1 nr x2] 30)) ((hφ.below hB.out).alloc _)
      have K1 := Blk.new wr #[.string nk, .slice x1 nr x2] 30
      have K2 := K1.alloc (.cells #[.string nk, .slice y1 nr y2] 30)
      have K3 := Blk.new (wr.alloc (.cells #[.string nk, .slice x1 nr x2] 30)) #[.string nk, .slice y1 nr y2] 30
      have hsa : (wr.alloc (.cells #[.string nk, .slice x1 nr x2] 30)).heap.size = wr.heap.size + 1 := Array.size_push ..
      rw [hsa] at K3
      have p0 := K2.cell 0
      have p1 := K2.cell 1
      have q0 := K3.cell 0
      have q1 := K3.cell 1
      have HB2 := Lib.hid ((hB.out.alloc hB.out.size (.cells #[.string nk, .slice x1 nr x2] 30)).alloc (by rw [hsa]; have := hB.out.size; omega) (.cells #[.string nk, .slice y1 nr y2] 30))
      have T1 := Lib.hid t1
      have U1 := Lib.hid u1
      clear K1 K2 K3 f1 f2 t1 u1
      simp only [List.getElem?_toArray, List.getElem?_cons_zero, List.getElem?_cons_succ] at p0 p1 q0 q1
      go_wp2_with fail
      refine (sameMargin_t (hφ.below HB2.out) hnr hnr9 T1.out U1.out).mono ?_
      rintro e w3 ⟨rfl, hb3⟩
      have HB3 := Lib.hid (HB2.out.trans (hb3.mono HB2.out.size))
      clear hb3 p0 p1 q0 q1 d0 d1 e0 e1
      go_wp2
      go_roundw
      case rel => exact ⟨k + 1, by omega, by go_num, HB3⟩
      case measure => (simp [intOf] <;> omega)
    · obtain rfl : k = n := by omega
      go_wp2
      go_ret
      exact ⟨rfl, hB.out⟩
theorem smB_ten {M K n : Nat} {N : Nat} (hN : Hid (N = 1000000000000)) (hK : Hid (10 ^ K ≤ M)) (hK2 : 150000 ≤ K) (hn : n ≤ 3000) : SmB M N n := by
  have h1 : N ≤ 10 ^ 12 := by rw [hN.out]; decide
  have h0 : n ≤ 10 ^ 4 := by have : (10 : Nat) ^ 4 = 10000 := by decide
                             omega
  obtain ⟨m, hm⟩ : ∃ m, m = 3000 := ⟨_, rfl⟩
  rw [← hm] at hn
  have h3 := ten_pow h1 hn
  exact ⟨Nat.le_trans (ten_le (ten_mul (ten_mul h0 h1) h3) (by omega)) hK.out, Nat.le_trans (ten_le h3 (by omega)) hK.out⟩
theorem smB_p {K n N : Nat} (hN : Hid (N = 1000000000000)) (hK2 : 150000 ≤ K) (hn : n ≤ 3000) : SmB (p10 K) N n := smB_ten (K := K) hN (Lib.hid (Nat.le_refl _)) hK2 hn
theorem p10_leP {j k : Nat} (h : j ≤ k) : p10 j ≤ p10 k := Nat.pow_le_pow_right (by decide) h
def GPsnR (x : Psn) : Prop := (StrG x.1.1 ∧ StrG x.1.2) ∧ ((x.2.1.length * 8 ≤ reachBytes ∧ ∀ y ∈ x.2.1, IsI64 y) ∧ (IsI64 x.2.2.1 ∧ (IsI64 x.2.2.2.1 ∧ IsI64 x.2.2.2.2)))
theorem rPsnR (H : Type) (enc : TypeId × Value → H) (W : World) : Reads enc Tryz.prog W 76 Psn GPsnR :=
  Reads.struct5 (s1 := 2) (s2 := 1) (s3 := 1) (s4 := 1) (s5 := 1) Tryz.underlying76 (by kernel_rfl) (by kernel_rfl) (by kernel_rfl) (by kernel_rfl) (by kernel_rfl) (by kernel_rfl) (by kernel_rfl) (by kernel_rfl) (by kernel_rfl) (by kernel_rfl) (by kernel_rfl) (rRti H enc W) (rInts H enc W) (rInt H enc W) (rInt H enc W) (rInt H enc W)
theorem rPsnsR (H : Type) (enc : TypeId × Value → H) (W : World) : Reads enc Tryz.prog W 23 (List Psn) (fun xs => xs.length * Tryz.prog.bytesOf 76 ≤ reachBytes ∧ ∀ x ∈ xs, GPsnR x) :=
  Reads.slice Tryz.underlying23 (by kernel_rfl) (by decide) (rPsnR H enc W)
theorem rRtis (H : Type) (enc : TypeId × Value → H) (W : World) : Reads enc Tryz.prog W 24 (List Rti) (fun xs => xs.length * Tryz.prog.bytesOf 32 ≤ reachBytes ∧ ∀ x ∈ xs, StrG x.1 ∧ StrG x.2) :=
  Reads.slice Tryz.underlying24 (by kernel_rfl) (by decide) (rRti H enc W)
def GMgn (x : Mgn) : Prop := StrG x.1 ∧ (x.2.length * Tryz.prog.bytesOf 32 ≤ reachBytes ∧ ∀ y ∈ x.2, StrG y.1 ∧ StrG y.2)
theorem rMgn (H : Type) (enc : TypeId × Value → H) (W : World) : Reads enc Tryz.prog W 30 Mgn GMgn :=
  Reads.struct2 (s1 := 1) (s2 := 1) Tryz.underlying30 (by kernel_rfl) (by kernel_rfl) (by kernel_rfl) (by kernel_rfl) (by kernel_rfl) (rStr H enc W) (rRtis H enc W)
theorem rMgns (H : Type) (enc : TypeId × Value → H) (W : World) : Reads enc Tryz.prog W 22 (List Mgn) (fun xs => xs.length * Tryz.prog.bytesOf 30 ≤ reachBytes ∧ ∀ x ∈ xs, GMgn x) :=
  Reads.slice Tryz.underlying22 (by kernel_rfl) (by decide) (rMgn H enc W)
theorem psnG_ofR {l : List Psn} (h : ∀ x ∈ l, GPsnR x) : ∀ p ∈ l, PsnG p := by
  intro p hp
  obtain ⟨⟨h1, h2⟩, _⟩ := h p hp
  unfold StrG reachBytes at h1 h2
  exact ⟨by omega, by omega⟩
theorem mgnG_of {m : List Mgn} (h : ∀ x ∈ m, GMgn x) : ∀ x ∈ m, MgnG x := by
  intro x hx
  obtain ⟨h1, _, h2⟩ := h x hx
  refine ⟨h1, fun r hr => ?_⟩
  obtain ⟨h3, h4⟩ := h2 r hr
  unfold StrG reachBytes at h3 h4
  exact ⟨by omega, by omega⟩
set_option maxRecDepth 100000 in
set_option maxHeartbeats 1000000 in
theorem people_core {M : Nat} (hM : LenB M) (hD : Hid (DivOk M)) (hRD : Hid (RdivOk M)) (hM2 : p10 2000 ≤ M) {N : Nat} (hN : Hid (N = 1000000000000)) {mm : List Mgn} {nm cm : Nat} {am : Option Addr} {n : Nat} (hB : Hid (n ≤ 3000 → SmB M N n)) {a : Option Addr} {cap : Nat} {l : List Psn} {w : World} {φ : Phi} (hφ : Fz φ w) (htp : TabP φ) (hp : PowP φ) (sm : SlV φ am cm mm) (hnm : Hid (mm.length = nm)) (hgm : Hid (∀ x ∈ mm, MgnG x)) (sl : SlV φ a cap l) (hn : Hid (l.length = n)) (hsz : Hid (∀ p ∈ l, PsnG p)) :
    Calls Tryz.prog 5 #[.slice am nm cm, .slice a n cap] w (fun e w' => e = .returned (.bool true) ∧ Below w.heap.size w w') := by
  obtain ⟨L, hL⟩ : ∃ L, (smsR mm l).1 = L := ⟨_, rfl⟩
  obtain ⟨F, hF⟩ : ∃ F, (smsR mm l).2 = F := ⟨_, rfl⟩
  have hR : Hid (smsR mm l = (L, F)) := Lib.hid (by rw [← hL, ← hF])
  obtain ⟨m, hm⟩ : ∃ m, Hid (L.length = m) := ⟨_, Lib.hid rfl⟩
  obtain ⟨f1, hf1⟩ : ∃ x, Hid (mgsF mm = x) := ⟨_, Lib.hid rfl⟩
  obtain ⟨f2, hf2⟩ : ∃ x, Hid (ppmF mm l = x) := ⟨_, Lib.hid rfl⟩
  have hFF : (F == F) = true := by simp
  have hFF1 : (f1 == f1) = true := by simp
  have hFF2 : (f2 == f2) = true := by simp
  have HI := Lib.hid (Inv.start hφ)
  have HS := Lib.hid sl
  have HM := Lib.hid sm
  have HP := Lib.hid hp
  have HTP := Lib.hid htp
  clear hL hF hφ hp htp sl sm
  go_enter Tryz.func5, Tryz.ntmps5
  go_wp2_with (first
    | (go_at_call 24; (with_reducible refine (EqualMg_t m _ _ L _ _ _ _ I6.out.fz (S1.out.mono (L2.out)) hm hm9 S2.out).mono ?_); rintro e w7 ⟨rfl, hb7⟩; have I7 := Lib.hid (I6.out.callB hb7); clear hb7)
    | (go_at_call 23; (with_reducible refine (RCheckPeople_any hRD hM hM2 I5.out.fz (HP.out.mono I5.out.le) (HTP.out.mono I5.out.le) (HM.out.mono I5.out.le) hnm hgm (HS.out.mono I5.out.le) hn hsz hf2).mono ?_); rintro e w6 ⟨rfl, hb6⟩; have I6 := Lib.hid (I5.out.callB hb6); clear hb6)
    | (go_at_call 22; (with_reducible refine (CheckPeople_any hD hM hM2 I4.out.fz (HM.out.mono I4.out.le) hnm hgm (HS.out.mono I4.out.le) hn hsz hf2).mono ?_); rintro e w5 ⟨rfl, hb5⟩; have I5 := Lib.hid (I4.out.callB hb5); clear hb5)
    | (go_at_call 21; (with_reducible refine (RCheckMargins_any hRD hM hM2 I3.out.fz (HP.out.mono I3.out.le) (HTP.out.mono I3.out.le) (HM.out.mono I3.out.le) hnm hgm hf1).mono ?_); rintro e w4 ⟨rfl, hb4⟩; have I4 := Lib.hid (I3.out.callB hb4); clear hb4)
    | (go_at_call 20; (with_reducible refine (CheckMargins_any hD hM hM2 I2.out.fz (HM.out.mono I2.out.le) hnm hgm hf1).mono ?_); rintro e w3 ⟨rfl, hb3⟩; have I3 := Lib.hid (I2.out.callB hb3); clear hb3)
    | (go_at_call 19; (with_reducible refine (RSums_any hRD hM hM2 hN hB I1.out.fz (HP.out.mono I1.out.le) (HTP.out.mono I1.out.le) (HM.out.mono I1.out.le) hnm hgm (HS.out.mono I1.out.le) hn hsz hR).mono ?_); rintro e w2 ⟨a2, c2, φ2, rfl, hi2, s2⟩; rw [show (L, F).1.length = m from hm.out]; have I2 := Lib.hid (I1.out.call hi2); have L2 := Lib.hid hi2.le; have S2 := Lib.hid s2; clear hi2 s2)
    | (go_at_call 18; (with_reducible refine (Sums_any hD hM hM2 hN hB HI.out.fz HP.out HM.out hnm hgm HS.out hn hsz hR).mono ?_); rintro e w1 ⟨a1, c1, φ1, rfl, hi1, s1⟩; rw [show (L, F).1.length = m from hm.out]; have I1 := Lib.hid (HI.out.call hi1); have S1 := Lib.hid s1; have hm9 : m ≤ 9223372036854775807 := (by rw [← hm.out]; have h1 := s1.capn; have h2 := s1.capm; unfold maxLen at h2; simp only at h1; omega); clear hi1 s1))
  go_ret
  exact ⟨rfl, I7.out.bel⟩
theorem weightPeopleMatchSpec_walk (w : World) (φ : Phi) (hφ : Fz φ w) (hp : PowP φ) (htp : TabP φ) (am : Option Addr) (cm : Nat) (ms : List Mgn) (sm : SlV φ am cm ms) (gm : ms.length * Tryz.prog.bytesOf 30 ≤ reachBytes ∧ ∀ x ∈ ms, GMgn x) (a : Option Addr) (cap : Nat) (xs : List Psn) (s : SlV φ a cap xs) (g : xs.length * Tryz.prog.bytesOf 76 ≤ reachBytes ∧ ∀ x ∈ xs, GPsnR x) :
    Calls Tryz.prog 5 #[.slice am ms.length cm, .slice a xs.length cap] w fun e w' => e = .returned (.bool true) ∧ Below w.heap.size w w' :=
  have hM := lenB_p (j := 200000) (k := 22223) (by decide) (by decide)
  people_core hM (Lib.hid (div_any hM)) (Lib.hid (Rdiv_any hM)) (p10_leP (by decide)) (Lib.hid rfl) (Lib.hid (fun h => smB_p (Lib.hid rfl) (by decide) h)) hφ htp hp sm (Lib.hid rfl) (Lib.hid (mgnG_of gm.2)) s (Lib.hid rfl) (Lib.hid (psnG_ofR g.2))
end Go.Proofs.YtmlpjffnmkndoaaGreatDoor
