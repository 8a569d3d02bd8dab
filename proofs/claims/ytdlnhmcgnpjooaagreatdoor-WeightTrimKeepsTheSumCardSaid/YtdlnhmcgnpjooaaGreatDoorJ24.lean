/- The walk of the reference's Respond. Conditions: the library's table of powers of ten reads as it was laid. -/
import Derived.Test.YtdlnhmcgnpjooaaGreatDoorJX
import Derived.Test.YtdlnhmcgnpjooaaGreatDoorJE
import Derived.Test.YtdlnhmcgnpjooaaGreatDoorJB
import Derived.Test.YtdlnhmcgnpjooaaGreatDoorB23
import Derived.Deep.DeepCutAuto
import Derived.Deep.RegionHeldLaw
namespace Go.Proofs.YtdlnhmcgnpjooaaGreatDoor
open Go.RowKit
set_option linter.unusedVariables false
set_option linter.unusedSimpArgs false
theorem FrX.repR {φ : Phi} {g : Bool} {a1 : Option Addr} {k1 c1 : Nat} {a2 : Option Addr} {k2 c2 : Nat} {x : Rat} {N D : Nat} (h : FrX φ (.agg #[.bool g, .slice a1 k1 c1, .slice a2 k2 c2]) x N D) : Rep.rep φ (⟨x⟩ : Rx N D) [.bool g, .slice a1 k1 c1, .slice a2 k2 c2] := ⟨g, a1, k1, c1, a2, k2, c2, rfl, h⟩
set_option maxRecDepth 100000 in
set_option maxHeartbeats 4000000 in
theorem RRespond_any {M : Nat} (hD : Hid (RdivOk M)) (hM : LenB M) (hM2 : p10 2000 ≤ M) {n : Nat} (hB : Hid (n ≤ 3000 → RpB M 1000000000000 1000000000000 n)) {a : Option Addr} {cap : Nat} {l : List Psn} {w : World} {φ : Phi} (hφ : Fz φ w) (hp : PowP φ) (sl : SlV φ a cap l) (hn : Hid (l.length = n)) (hsz : Hid (∀ p ∈ l, PsnG p)) {aa : Option Addr} {ca : Nat} {an : List Bool} (sa : SlV φ aa ca an) {ma : Nat} (hna : Hid (an.length = ma)) {L : List Rti} {F : Int} (hR : Hid (respR l an = (L, F))) :
    Calls Tryz.prog 15 #[.slice a n cap, .slice aa ma ca] w (SlPost (L, F) φ w) := by
  have HP := Lib.hid hp
  have HM2 := Lib.hid hM2
  have hnl : n ≤ 9223372036854775807 := by have := sl.capn; have := sl.capm; rw [hn.out] at *; unfold maxLen at *; omega
  have hnl2 : ma ≤ 9223372036854775807 := by have := sa.capn; have := sa.capm; rw [hna.out] at *; unfold maxLen at *; omega
  obtain ⟨f, hf⟩ : ∃ f, Hid (pplF l = f) := ⟨_, Lib.hid rfl⟩
  have HI := Lib.hid (Inv.start hφ)
  clear hφ hp hM2
  by_cases hf0 : f = 0
  case neg =>
    have hE : Hid (([], f) = (L, F)) := Lib.hid (by rw [← hR.out]; unfold respR; rw [if_pos (by rw [hf.out]; exact hf0), hf.out])
    have h0i : (f == 0) = false := by simp [hf0]
    have h0j : (f != 0) = true := by simp [hf0]
    clear hf0 hB hR
    go_enter Tryz.func15, Tryz.ntmps15
    go_wp2_with (go_at_call 41; (with_reducible refine (checkAlone_any hD hM HM2.out HI.out.fz HP.out sl hn hsz hf).mono ?_); rintro e w1 ⟨rfl, hb1⟩; have I1 := Lib.hid (HI.out.callB hb1); clear hb1)
    go_ret2
    have := hE.out
    injection this with e1 e2
    subst e1 e2
    exact ⟨none, 0, φ, rfl, I1.out, SlV.empty φ⟩
  case pos =>
    subst hf0
    by_cases hmn : ma = n
    case neg =>
      have hE : Hid (([], 3) = (L, F)) := Lib.hid (by rw [← hR.out]; exact (respR_form hf.out (by rw [hna.out, hn.out]; exact hmn)).symm)
      have hmi : ((ma : Int) == n) = false := by simp; omega
      have hmj : ((ma : Int) != n) = true := by simp; omega
      clear hmn hB hR
      go_enter Tryz.func15, Tryz.ntmps15
      go_wp2_with (go_at_call 41; (with_reducible refine (checkAlone_any hD hM HM2.out HI.out.fz HP.out sl hn hsz hf).mono ?_); rintro e w1 ⟨rfl, hb1⟩; have I1 := Lib.hid (HI.out.callB hb1); clear hb1)
      go_ret2
      have := hE.out
      injection this with e1 e2
      subst e1 e2
      exact ⟨none, 0, φ, rfl, I1.out, SlV.empty φ⟩
    case pos =>
      subst hmn
      obtain ⟨hn3', hall⟩ := pplF_ok hf.out
      rw [hn.out] at hn3' hall
      have hn3 := hn3'
      clear hn3'
      have hok : Hid (∀ p ∈ l, shoF p.1.1 p.1.2 = 0) := Lib.hid (fun p hpm => by
        obtain ⟨i, hi, e⟩ := List.getElem_of_mem hpm
        have := hall i (by rw [← hn.out]; exact hi)
        rw [getD_elem0 _ _ _ hi, e] at this
        exact (psnF_ok this).1)
      obtain ⟨xs, hxs⟩ : ∃ xs, l.map (fun p => ratX p.1.1 p.1.2) = xs := ⟨_, rfl⟩
      have hxn : Hid (xs.length = ma) := Lib.hid (by rw [← hxs, List.length_map, hn.out])
      have hnm : Hid ((xs.map (Rx.mk (N := 1000000000000) (D := 1000000000000))).length = ma) := Lib.hid (by rw [List.length_map, hxn.out])
      have hW : l.map rxW = xs.map (Rx.mk (N := 1000000000000) (D := 1000000000000)) := by rw [← hxs, List.map_map]; rfl
      have hxw : Hid (∀ k, k < ma → xs.getD k 0 = wgtQ l k) := Lib.hid (fun k hk => by
        have h1 : k < l.length := by rw [hn.out]; exact hk
        rw [← hxs]
        unfold wgtQ
        simp [List.getD_eq_getElem?_getD, List.getElem?_map, h1])
      have HC7 := Lib.hid (fun W (hf9 : Fz φ W) => Rweights_any hf9 sl hn hn3 hok)
      rw [hW] at HC7
      have HB := Lib.hid (hB.out hn3)
      have hRz := Lib.hid (fun k (hk : k < ma) (hz : ownQ l an k = 0) => (hR.out).symm.trans (respR_zero hf.out hn.out hna.out hk hz))
      have hRo := Lib.hid (fun (hz : ∀ k, k < ma → ownQ l an k ≠ 0) => (respR_ok hf.out hn.out hna.out hz).symm.trans hR.out)
      clear hW hok hB hall hxs hR
      obtain ⟨N, hN⟩ : ∃ N, N = 1000000000000 := ⟨_, rfl⟩
      rw [← hN] at HC7 hnm HB
      have hN1 : 1 ≤ N := by omega
      clear hN
      obtain ⟨NX, hNX⟩ : ∃ x, Hid (N * (ma * N * N ^ ma) * N ^ ma = x) := ⟨_, Lib.hid rfl⟩
      obtain ⟨DX, hDX⟩ : ∃ x, Hid (N * N ^ ma * (ma * N * N ^ ma) = x) := ⟨_, Lib.hid rfl⟩
      have hbd : Hid (∀ k, k < ma → k * N * N ^ k * N + N * N ^ k ≤ M ∧ N ^ k * N ≤ M ∧ k * N * N ^ k * N + N * N ^ k ≤ (k + 1) * N * N ^ (k + 1) ∧ N ^ k * N = N ^ (k + 1)) := Lib.hid (fun k hk =>
        ⟨Nat.le_trans (sumB_step hN1) (Nat.le_trans (sumB_mono hN1 hk) HB.out.c1), by rw [← Nat.pow_succ]; exact Nat.le_trans (powB_mono hN1 hk) HB.out.c2, sumB_step hN1, (Nat.pow_succ ..).symm⟩)
      have hmo : Hid (∀ k, k < ma → k * N * N ^ k ≤ (k + 1) * N * N ^ (k + 1) ∧ N ^ k ≤ N ^ (k + 1)) := Lib.hid (fun k hk => ⟨sumB_mono hN1 (Nat.le_succ k), powB_mono hN1 (Nat.le_succ k)⟩)
      have hDX1 : ma ≠ 0 → 1 ≤ DX := fun h => by rw [← hDX.out]; exact Nat.mul_pos (Nat.mul_pos hN1 (Nat.pow_pos hN1)) (Nat.mul_pos (Nat.mul_pos (Nat.pos_of_ne_zero h) hN1) (Nat.pow_pos hN1))
      have hC0 := Lib.hid (fun (ψ : Phi) W (hf : Fz ψ W) => RWhole_any (n := 0) (by decide) (by decide) hf)
      rw [show ((0 : Int) : Rat) = 0 from rfl, show (0 : Int).natAbs = 0 from rfl] at hC0
      have HSA := Lib.hid sa
      have HSL := Lib.hid sl
      clear sa sl
      go_enter Tryz.func15, Tryz.ntmps15
      go_upto_region 8 with (first
        | (go_at_call 42; (with_reducible refine (HC7.out _ I1.out.fz).mono ?_); rintro e w2 ⟨aw, cw, φ1, rfl, hi2, s1⟩; rw [hnm.out]; have I2 := Lib.hid (I1.out.call hi2); have S1 := Lib.hid s1; clear hi2 s1)
        | (go_at_call 41; (with_reducible refine (checkAlone_any hD hM HM2.out HI.out.fz HP.out HSL.out hn hsz hf).mono ?_); rintro e w1 ⟨rfl, hb1⟩; have I1 := Lib.hid (HI.out.callB hb1); clear hb1))
      have L1 := Lib.hid I2.out.le
      have hS0 : Hid (OwG w φ φ1 46 none 0 ([] : List (Rx NX DX)) w2) := Lib.hid ⟨I2.out, Own.nil _ _ _ _⟩
      clear HC7 I1 I2
      go_wp2
      go_loopw [8, 29] (fun ov iv wr => ∃ (k : Nat) (ao : Option Addr) (co : Nat) (os : List (Rx NX DX)) (φ' : Phi), k ≤ ma ∧ iv = .int .i64 (k : Int) ∧ ov = .slice ao os.length co ∧ Hid (os.length = k) ∧ Hid (os = ((List.range k).map (rspX l an)).map (Rx.mk (N := NX) (D := DX))) ∧ Hid (∀ i, i < k → ownQ l an i ≠ 0) ∧ Hid (φ1.le φ') ∧ Hid (OwG w φ φ' 46 ao co os wr)) (fun _ iv _ => ma - (intOf iv).toNat)
      case atStart => exact ⟨0, none, 0, [], φ1, Nat.zero_le _, rfl, rfl, Lib.hid rfl, Lib.hid rfl, Lib.hid (fun i hi => absurd hi (Nat.not_lt_zero i)), Lib.hid φ1.le_refl, hS0⟩
      case round =>
        clear hS0
        obtain ⟨k, ao, co, os, φ', hk, rfl, rfl, hol, hos, hnz, hle, hS⟩ := hrel
        by_cases hlt : k < ma
        · have hlti : (k : Int) < (ma : Int) := by omega
          obtain ⟨b, off, rfl, fp⟩ := HSL.out.psnsD hn hlt
          obtain ⟨bw, ow, rfl, fw⟩ := S1.out.rxD hnm hlt
          obtain ⟨ba, oa, rfl, fa⟩ := HSA.out.boolsV hna hlt
          have FP := Lib.hid fp
          have FW0 := Lib.hid fw
          have FA := Lib.hid fa
          obtain ⟨ar0, cr0, _, f2⟩ := fp k hlt
          obtain ⟨d0, d1, d2, d3, d4, d5⟩ := f2 wr (hS.out.inv.fz.sub hS.out.inv.le)
          have hck : Hid (clsI l k = (l.getD k psn0).2.2.1) := Lib.hid rfl
          generalize l.getD k psn0 = p at *
          obtain ⟨⟨s0, t0⟩, cl, x0, y0, z0⟩ := p
          dsimp only at d0 d1 d2 d3 d4 d5 hck
          obtain ⟨m0, hm9⟩ : ∃ m, cl.length = m := ⟨_, rfl⟩
          rw [hm9] at d2
          obtain ⟨φp, lp, ip, ep⟩ := (Inv.start hS.out.inv.fz).frz (.cells #[.string s0, .string t0, .slice ar0 m0 cr0, .int .i64 x0, .int .i64 y0, .int .i64 z0] 43)
          have HS1 := Lib.hid (hS.out.call ip)
          have LP := Lib.hid lp
          have EP := Lib.hid ep
          clear fp fw fa f2 hm9 hS lp ip ep
          go_upto_region 11 with fail
          generalize wr.alloc (.cells #[.string s0, .string t0, .slice ar0 m0 cr0, .int .i64 x0, .int .i64 y0, .int .i64 z0] 43) = wa at *
          generalize wr.heap.size = bp at *
          clear d0 d1 d2 d3 d4 d5
          go_upto_region 12 with (first
            | (go_at_call 17; (with_reducible refine (hC0.out _ _ HS2.out.inv.fz).mono ?_); rintro e w5 ⟨v5, φ5, rfl, hi5, hv5⟩; obtain ⟨g2, n5, m5, k3, k4, a3, c3, a4, c4, rfl, _⟩ := hv5.open; have HS3 := Lib.hid (HS2.out.call hi5); have HV5 := Lib.hid hv5; have HV45 := Lib.hid (HV4.out.mono hi5.le); have L5 := Lib.hid (L4.out.trans hi5.le); clear hi5 hv5)
            | (go_at_call 17; (with_reducible refine (hC0.out _ _ HS1.out.inv.fz).mono ?_); rintro e w4 ⟨v4, φ4, rfl, hi4, hv4⟩; obtain ⟨g1, n4, m4, k1, k2, a1, c1, a2, c2, rfl, _⟩ := hv4.open; have HS2 := Lib.hid (HS1.out.call hi4); have HV4 := Lib.hid hv4; have L4 := Lib.hid hi4.le; clear hi4 hv4))
          have HR0 := Lib.hid (RpS.new (E := 46) HS3.out #[.bool g1, .slice a1 k1 c1, .slice a2 k2 c2] #[.bool g2, .slice a3 k3 c3, .slice a4 k4 c4])
          clear HS1 HS2 HS3 HV4 L4
          generalize (w5.alloc (.cells #[.bool g1, .slice a1 k1 c1, .slice a2 k2 c2] 46)).alloc (.cells #[.bool g2, .slice a3 k3 c3, .slice a4 k4 c4] 46) = wb at *
          generalize w5.heap.size = b1 at *
          have HA0 : Hid (FrX φ5 (.agg #[.bool g1, .slice a1 k1 c1, .slice a2 k2 c2]) (sumF (rspA l k) 0) (0 * N * N ^ 0) (N ^ 0)) := Lib.hid (by
            have h := HV45.out.le (Nat.zero_le (0 * N * N ^ 0)) (Nat.le_of_eq (by simp : 1 = N ^ 0))
            exact h)
          have HO0 : Hid (FrX φ5 (.agg #[.bool g2, .slice a3 k3 c3, .slice a4 k4 c4]) (sumF (rspO l an k) 0) (0 * N * N ^ 0) (N ^ 0)) := Lib.hid (by
            have h := HV5.out.le (Nat.zero_le (0 * N * N ^ 0)) (Nat.le_of_eq (by simp : 1 = N ^ 0))
            exact h)
          clear HV45 HV5
          go_wp2
          go_loopw [38] (fun iv wr => ∃ (j : Nat) (φ'' : Phi) (g1 : Bool) (a1 : Option Addr) (k1 c1 : Nat) (a2 : Option Addr) (k2 c2 : Nat) (g2 : Bool) (a3 : Option Addr) (k3 c3 : Nat) (a4 : Option Addr) (k4 c4 : Nat), j ≤ ma ∧ iv = .int .i64 (j : Int) ∧ Hid (φp.le φ'') ∧ Hid (RpS (α := Rx NX DX) 46 46 w φ φ'' ao co os b1 #[.bool g1, .slice a1 k1 c1, .slice a2 k2 c2] (b1 + 1) #[.bool g2, .slice a3 k3 c3, .slice a4 k4 c4] wr) ∧ Hid (FrX φ'' (.agg #[.bool g1, .slice a1 k1 c1, .slice a2 k2 c2]) (sumF (rspA l k) j) (j * N * N ^ j) (N ^ j)) ∧ Hid (FrX φ'' (.agg #[.bool g2, .slice a3 k3 c3, .slice a4 k4 c4]) (sumF (rspO l an k) j) (j * N * N ^ j) (N ^ j))) (fun iv _ => ma - (intOf iv).toNat)
          case atStart => exact ⟨0, φ5, g1, a1, k1, c1, a2, k2, c2, g2, a3, k3, c3, a4, k4, c4, Nat.zero_le _, rfl, L5, HR0, HA0, HO0⟩
          case round =>
            clear HR0 HA0 HO0
            obtain ⟨j, φ'', g1, a1, k1, c1, a2, k2, c2, g2, a3, k3, c3, a4, k4, c4, hj, rfl, hlp, hS, hV, hU⟩ := hrel
            by_cases hjl : j < ma
            · have hjli : (j : Int) < (ma : Int) := by omega
              obtain ⟨ar1, cr1, _, f2⟩ := FP.out j hjl
              obtain ⟨d0, d1, d2, d3, d4, d5⟩ := f2 wr (hS.out.a.inv.fz.sub hS.out.a.inv.le)
              have hcj : Hid (clsI l j = (l.getD j psn0).2.2.1) := Lib.hid rfl
              generalize l.getD j psn0 = p at *
              obtain ⟨⟨s1, t1⟩, cl1, x1, y1, z1⟩ := p
              dsimp only at d0 d1 d2 d3 d4 d5 hcj
              obtain ⟨m1, hm9⟩ : ∃ m, cl1.length = m := ⟨_, rfl⟩
              rw [hm9] at d2
              obtain ⟨gx, ax, kx, cx, ay, ky, cy, hx, fwj⟩ := FW0.out j hjl
              rw [rx_getD, hxw.out j hjl] at hx
              have HX := Lib.hid hx
              have FW := Lib.hid fwj
              have HBD := Lib.hid (hbd.out j hjl)
              have HMO := Lib.hid (hmo.out j hjl)
              obtain ⟨φj, lj, ij, ej⟩ := (Inv.start hS.out.a.inv.fz).frz (.cells #[.string s1, .string t1, .slice ar1 m1 cr1, .int .i64 x1, .int .i64 y1, .int .i64 z1] 43)
              have HS1 := Lib.hid (hS.out.call ij)
              have LJ := Lib.hid (hlp.out.trans lj)
              have LZ := Lib.hid ((hle.out.trans LP.out).trans (hlp.out.trans lj))
              have EJ := Lib.hid ej
              have EPJ := Lib.hid ((hlp.out.trans lj) _ _ EP.out)
              have HV1 := Lib.hid (hV.out.mono lj)
              have HU1 := Lib.hid (hU.out.mono lj)
              have hcc : Hid (clsI l j = clsI l k ↔ x1 = x0) := Lib.hid (by rw [hcj.out, hck.out])
              clear f2 hm9 hx fwj lj ij ej hS hV hU hcj
              go_upto_region 15 with fail
              generalize wr.alloc (.cells #[.string s1, .string t1, .slice ar1 m1 cr1, .int .i64 x1, .int .i64 y1, .int .i64 z1] 43) = wz at *
              generalize wr.heap.size = bj at *
              clear d0 d1 d2 d3 d4 d5
              have u3 : wz.cell? ⟨bj, 3, none⟩ = some (.int .i64 x1) := box_cell EJ.out φj.le_refl HS1.out.a.inv.fz 3
              have v3 : wz.cell? ⟨bp, 3, none⟩ = some (.int .i64 x0) := box_cell EPJ.out φj.le_refl HS1.out.a.inv.fz 3
              by_cases hc : x1 = x0
              · have HCC := Lib.hid (hcc.out.2 hc)
                subst hc
                go_upto_region 16 with fail
                clear u3 v3
                have SAd := Lib.hid HS1.out.drew
                have w0 : wz.drew.cell? ⟨bw, ow + j * 3, none⟩ = some (.bool gx) := (FW.out wz.drew (SAd.out.a.inv.fz.sub LZ.out)).1
                have w1 : wz.drew.cell? ⟨bw, ow + j * 3 + 1, none⟩ = some (.slice ax kx cx) := (FW.out wz.drew (SAd.out.a.inv.fz.sub LZ.out)).2.1
                have w2 : wz.drew.cell? ⟨bw, ow + j * 3 + 2, none⟩ = some (.slice ay ky cy) := (FW.out wz.drew (SAd.out.a.inv.fz.sub LZ.out)).2.2
                have w0' : wz.cell? ⟨bw, ow + j * 3, none⟩ = some (.bool gx) := w0
                have w1' : wz.cell? ⟨bw, ow + j * 3 + 1, none⟩ = some (.slice ax kx cx) := w1
                have w2' : wz.cell? ⟨bw, ow + j * 3 + 2, none⟩ = some (.slice ay ky cy) := w2
                have e0 : wz.cell? ⟨b1, 0, none⟩ = some (.bool g1) := SAd.out.a.k.cell 0
                have e1 : wz.cell? ⟨b1, 1, none⟩ = some (.slice a1 k1 c1) := SAd.out.a.k.cell 1
                have e2 : wz.cell? ⟨b1, 2, none⟩ = some (.slice a2 k2 c2) := SAd.out.a.k.cell 2
                have e0' : wz.drew.cell? ⟨b1, 0, none⟩ = some (.bool g1) := e0
                have e1' : wz.drew.cell? ⟨b1, 1, none⟩ = some (.slice a1 k1 c1) := e1
                have e2' : wz.drew.cell? ⟨b1, 2, none⟩ = some (.slice a2 k2 c2) := e2
                go_region_with (first
                  | ((with_reducible refine (RPlus_any hD hM SAd.out.a.inv.fz HV1.out (HX.out.mono LZ.out) HBD.out.1 HBD.out.2.1).mono ?_); rintro e wC ⟨vC, φC, rfl, hiC, hvC⟩; obtain ⟨gC, nC, mC, kC, kC', aC, cC, aC', cC', rfl, _⟩ := hvC.open; have SC := Lib.hid (SAd.out.call hiC); have LC := Lib.hid hiC.le; have VC := Lib.hid (hvC.le HBD.out.2.2.1 (Nat.le_of_eq HBD.out.2.2.2)); have r0 : wC.cell? ⟨b1, 0, none⟩ = some (.bool g1) := SC.out.a.k.cell 0; have r1 : wC.cell? ⟨b1, 1, none⟩ = some (.slice a1 k1 c1) := SC.out.a.k.cell 1; have r2 : wC.cell? ⟨b1, 2, none⟩ = some (.slice a2 k2 c2) := SC.out.a.k.cell 2; have r3 := SC.out.a.k.frz 0; have r4 := SC.out.a.k.frz 1; have r5 := SC.out.a.k.frz 2; clear hiC hvC))
                all_goals
                  clear w0 w1 w2 w0' w1' w2' e0 e1 e2 e0' e1' e2'
                  have SQ := Lib.hid (SC.out.put1 (.bool gC) (.slice aC kC cC) (.slice aC' kC' cC'))
                  have PA : Hid (FrX φC (.agg #[.bool gC, .slice aC kC cC, .slice aC' kC' cC']) (sumF (rspA l k) (j + 1)) ((j + 1) * N * N ^ (j + 1)) (N ^ (j + 1))) := Lib.hid (by rw [rspA_eq HCC.out]; exact VC.out)
                  have HU2 := Lib.hid (HU1.out.mono LC.out)
                  go_upto_region 17 with fail
                  clear r0 r1 r2 r3 r4 r5
                  generalize ((wC.setCell ⟨b1, 0, none⟩ (.bool gC)).setCell ⟨b1, 1, none⟩ (.slice aC kC cC)).setCell ⟨b1, 2, none⟩ (.slice aC' kC' cC') = wq at *
                  obtain ⟨aj, haj⟩ : ∃ b, Hid (an.getD j false = b) := ⟨_, Lib.hid rfl⟩
                  have q0 : wq.cell? ⟨ba, oa + j, none⟩ = some (.bool aj) := by rw [← haj.out]; exact FA.out j hjl wq (SQ.out.a.inv.fz.sub SQ.out.a.inv.le)
                  have q1 : wq.cell? ⟨bj, 3, none⟩ = some (.int .i64 x1) := box_cell EJ.out LC.out SQ.out.a.inv.fz 3
                  have q2 : wq.cell? ⟨bp, 3, none⟩ = some (.int .i64 x1) := box_cell EPJ.out LC.out SQ.out.a.inv.fz 3
                  have LJC := Lib.hid (LJ.out.trans LC.out)
                  have LZC := Lib.hid (LZ.out.trans LC.out)
                  cases aj
                  · have PO : Hid (FrX φC (.agg #[.bool g2, .slice a3 k3 c3, .slice a4 k4 c4]) (sumF (rspO l an k) (j + 1)) ((j + 1) * N * N ^ (j + 1)) (N ^ (j + 1))) := Lib.hid (by rw [rspO_ne (fun h => by rw [haj.out] at h; exact absurd h.2 (by decide))]; exact HU2.out.le HMO.out.1 HMO.out.2)
                    go_wp2
                    go_roundw
                    case rel => exact ⟨j + 1, φC, gC, aC, kC, cC, aC', kC', cC', g2, a3, k3, c3, a4, k4, c4, by omega, by go_num, LJC, SQ, PA, PO⟩
                    case measure => (simp [intOf] <;> omega)
                  · go_upto_region 18 with fail
                    clear q0 q1 q2
                    have SAd := Lib.hid SQ.out.drew
                    have w0 : wq.drew.cell? ⟨bw, ow + j * 3, none⟩ = some (.bool gx) := (FW.out wq.drew (SAd.out.a.inv.fz.sub LZC.out)).1
                    have w1 : wq.drew.cell? ⟨bw, ow + j * 3 + 1, none⟩ = some (.slice ax kx cx) := (FW.out wq.drew (SAd.out.a.inv.fz.sub LZC.out)).2.1
                    have w2 : wq.drew.cell? ⟨bw, ow + j * 3 + 2, none⟩ = some (.slice ay ky cy) := (FW.out wq.drew (SAd.out.a.inv.fz.sub LZC.out)).2.2
                    have w0' : wq.cell? ⟨bw, ow + j * 3, none⟩ = some (.bool gx) := w0
                    have w1' : wq.cell? ⟨bw, ow + j * 3 + 1, none⟩ = some (.slice ax kx cx) := w1
                    have w2' : wq.cell? ⟨bw, ow + j * 3 + 2, none⟩ = some (.slice ay ky cy) := w2
                    have e0 : wq.cell? ⟨b1 + 1, 0, none⟩ = some (.bool g2) := SAd.out.o.k.cell 0
                    have e1 : wq.cell? ⟨b1 + 1, 1, none⟩ = some (.slice a3 k3 c3) := SAd.out.o.k.cell 1
                    have e2 : wq.cell? ⟨b1 + 1, 2, none⟩ = some (.slice a4 k4 c4) := SAd.out.o.k.cell 2
                    have e0' : wq.drew.cell? ⟨b1 + 1, 0, none⟩ = some (.bool g2) := e0
                    have e1' : wq.drew.cell? ⟨b1 + 1, 1, none⟩ = some (.slice a3 k3 c3) := e1
                    have e2' : wq.drew.cell? ⟨b1 + 1, 2, none⟩ = some (.slice a4 k4 c4) := e2
                    go_region_with (first
                      | ((with_reducible refine (RPlus_any hD hM SAd.out.a.inv.fz HU2.out (HX.out.mono LZC.out) HBD.out.1 HBD.out.2.1).mono ?_); rintro e wD ⟨vD, φD, rfl, hiD, hvD⟩; obtain ⟨gD, nD, mD, kD, kD', aD, cD, aD', cD', rfl, _⟩ := hvD.open; have SD := Lib.hid (SAd.out.call hiD); have LD := Lib.hid hiD.le; have VD := Lib.hid (hvD.le HBD.out.2.2.1 (Nat.le_of_eq HBD.out.2.2.2)); have r0 : wD.cell? ⟨b1 + 1, 0, none⟩ = some (.bool g2) := SD.out.o.k.cell 0; have r1 : wD.cell? ⟨b1 + 1, 1, none⟩ = some (.slice a3 k3 c3) := SD.out.o.k.cell 1; have r2 : wD.cell? ⟨b1 + 1, 2, none⟩ = some (.slice a4 k4 c4) := SD.out.o.k.cell 2; have r3 := SD.out.o.k.frz 0; have r4 := SD.out.o.k.frz 1; have r5 := SD.out.o.k.frz 2; clear hiD hvD))
                    all_goals
                      clear w0 w1 w2 w0' w1' w2' e0 e1 e2 e0' e1' e2'
                      have SDD := Lib.hid (SD.out.put2 (.bool gD) (.slice aD kD cD) (.slice aD' kD' cD'))
                      have PO : Hid (FrX φD (.agg #[.bool gD, .slice aD kD cD, .slice aD' kD' cD']) (sumF (rspO l an k) (j + 1)) ((j + 1) * N * N ^ (j + 1)) (N ^ (j + 1))) := Lib.hid (by rw [rspO_eq HCC.out haj.out]; exact VD.out)
                      go_wp2
                      go_roundw
                      case rel => exact ⟨j + 1, φD, gC, aC, kC, cC, aC', kC', cC', gD, aD, kD, cD, aD', kD', cD', by omega, by go_num, Lib.hid (LJC.out.trans LD.out), SDD, Lib.hid (PA.out.mono LD.out), PO⟩
                      case measure => (simp [intOf] <;> omega)
              · have HCC : Hid (¬ clsI l j = clsI l k) := Lib.hid (fun e => hc (hcc.out.1 e))
                have hci : (x1 == x0) = false := by simp [hc]
                have PA : Hid (FrX φj (.agg #[.bool g1, .slice a1 k1 c1, .slice a2 k2 c2]) (sumF (rspA l k) (j + 1)) ((j + 1) * N * N ^ (j + 1)) (N ^ (j + 1))) := Lib.hid (by rw [rspA_ne HCC.out]; exact HV1.out.le HMO.out.1 HMO.out.2)
                have PO : Hid (FrX φj (.agg #[.bool g2, .slice a3 k3 c3, .slice a4 k4 c4]) (sumF (rspO l an k) (j + 1)) ((j + 1) * N * N ^ (j + 1)) (N ^ (j + 1))) := Lib.hid (by rw [rspO_ne (fun h => HCC.out h.1)]; exact HU1.out.le HMO.out.1 HMO.out.2)
                clear hc
                go_wp2
                go_roundw
                case rel => exact ⟨j + 1, φj, g1, a1, k1, c1, a2, k2, c2, g2, a3, k3, c3, a4, k4, c4, by omega, by go_num, LJ, HS1, PA, PO⟩
                case measure => (simp [intOf] <;> omega)
            · obtain rfl : j = ma := by omega
              obtain ⟨φz, lz, hG, e1, e2⟩ := hS.out.frz
              have HG := Lib.hid hG
              have E1 := Lib.hid e1
              have E2 := Lib.hid e2
              have hA1 : sumF (rspA l k) j = allQ l k := by unfold allQ; rw [hn.out]
              have hO1 : sumF (rspO l an k) j = ownQ l an k := by unfold ownQ; rw [hn.out]
              have hVz := hV.out.mono lz
              have hUz := hU.out.mono lz
              rw [hA1] at hVz
              rw [hO1] at hUz
              have HVz := Lib.hid hVz
              have HUz := Lib.hid hUz
              have LE := Lib.hid ((hle.out.trans LP.out).trans (hlp.out.trans lz))
              have y0 : wr.cell? ⟨b1 + 1, 0, none⟩ = some (.bool g2) := box_cell E2.out φz.le_refl HG.out.inv.fz 0
              have y1 : wr.cell? ⟨b1 + 1, 1, none⟩ = some (.slice a3 k3 c3) := box_cell E2.out φz.le_refl HG.out.inv.fz 1
              have y2 : wr.cell? ⟨b1 + 1, 2, none⟩ = some (.slice a4 k4 c4) := box_cell E2.out φz.le_refl HG.out.inv.fz 2
              clear hS hV hU hG e1 e2 lz hA1 hO1 hVz hUz hbd hmo EP
              by_cases hz : ownQ l an k = 0
              · have hzb : Hid (decide (ownQ l an k = 0) = true) := Lib.hid (decide_eq_true hz)
                have hE := Lib.hid (hRz.out k hlt hz)
                clear hz
                go_wp2_with (go_at_call 21; (with_reducible refine (RZero_any HG.out.inv.fz HUz.out hzb).mono ?_); rintro e w6 ⟨rfl, hb6⟩; have HG6 := Lib.hid (HG.out.callB hb6); clear hb6)
                go_ret2
                have := hE.out
                injection this with e1 e2
                subst e1 e2
                exact ⟨none, 0, φz, rfl, HG6.out.inv, SlV.empty φz⟩
              · have hzb : Hid (decide (ownQ l an k = 0) = false) := Lib.hid (decide_eq_false hz)
                have HZ := Lib.hid hz
                have hnz2 : Hid (∀ i, i < k + 1 → ownQ l an i ≠ 0) := Lib.hid (fun i hi => by
                  by_cases e : i = k
                  · subst e; exact HZ.out
                  · exact hnz.out i (by omega))
                clear hz
                have hos3 : os.length ≤ 3000 := by rw [hol.out]; omega
                obtain ⟨ak, hak⟩ : ∃ b, Hid (an.getD k false = b) := ⟨_, Lib.hid rfl⟩
                cases ak
                · have hx0 : Hid (os ++ [Rx.mk 0] = ((List.range (k + 1)).map (rspX l an)).map (Rx.mk (N := NX) (D := DX))) := Lib.hid (by
                    rw [range_snoc, List.map_append, ← hos.out]
                    show _ = os ++ [Rx.mk (rspX l an k)]
                    unfold rspX
                    rw [hak.out]; rfl)
                  go_upto_region 23 with (go_at_call 21; (with_reducible refine (RZero_any HG.out.inv.fz HUz.out hzb).mono ?_); rintro e w6 ⟨rfl, hb6⟩; have HG6 := Lib.hid (HG.out.callB hb6); clear hb6)
                  clear y0 y1 y2
                  have q0 : w6.cell? ⟨ba, oa + k, none⟩ = some (.bool false) := by rw [← hak.out]; exact FA.out k hlt w6 (HG6.out.inv.fz.sub HG6.out.inv.le)
                  go_wp2_with (first
                    | (at_builtin; (refine wpList_app1F (α := Rx NX DX) rfl _ _ 77 rfl (slRx _ _) hin.out ao co os hon.out #[.bool gC, .slice aC kC cC, .slice aC' kC' cC'] 46 (Rx.mk 0) HREP.out rfl 1 rfl (by omega) ?_; intro a9 c9 w9 hi9 ho9 hg9 hf9; rw [show (os ++ [(Rx.mk 0 : Rx NX DX)]).length = os.length + 1 from by rw [List.length_append]; rfl]))
                    | (go_at_call 17; (with_reducible refine (hC0.out _ _ HG6.out.inv.fz).mono ?_); rintro e w7 ⟨v7, φ7, rfl, hi7, hv7⟩; have hv8 := hv7.le (Nat.zero_le NX) (hDX1 (by omega)); obtain ⟨gC, nC, mC, kC, kC', aC, cC, aC', cC', rfl, _⟩ := hv8.open; have HREP := Lib.hid (FrX.repR hv8); have HG7 := Lib.hid (HG6.out.call hi7); have hin := Lib.hid HG7.out.inv; have hon := Lib.hid HG7.out.own; have L7 := Lib.hid hi7.le; clear hi7 hv7 hv8))
                  go_roundw
                  case rel => exact ⟨k + 1, a9, c9, os ++ [Rx.mk 0], φ7, by omega, by go_num, by rw [List.length_append]; rfl, Lib.hid (by rw [List.length_append, hol.out]; rfl), hx0, hnz2, Lib.hid (LE.out.trans L7.out), Lib.hid ⟨hi9, ho9⟩⟩
                  case measure => (simp [intOf] <;> omega)
                · have hx1 : Hid (os ++ [Rx.mk (wgtQ l k * allQ l k / ownQ l an k)] = ((List.range (k + 1)).map (rspX l an)).map (Rx.mk (N := NX) (D := DX))) := Lib.hid (by
                    rw [range_snoc, List.map_append, ← hos.out]
                    show _ = os ++ [Rx.mk (rspX l an k)]
                    unfold rspX
                    rw [hak.out]; rfl)
                  go_upto_region 23 with (go_at_call 21; (with_reducible refine (RZero_any HG.out.inv.fz HUz.out hzb).mono ?_); rintro e w6 ⟨rfl, hb6⟩; have HG6 := Lib.hid (HG.out.callB hb6); clear hb6)
                  clear y0 y1 y2
                  have q0 : w6.cell? ⟨ba, oa + k, none⟩ = some (.bool true) := by rw [← hak.out]; exact FA.out k hlt w6 (HG6.out.inv.fz.sub HG6.out.inv.le)
                  go_upto_region 24 with fail
                  clear q0
                  obtain ⟨gx, ax, kx, cx, ay, ky, cy, hx, fwk⟩ := FW0.out k hlt
                  rw [rx_getD, hxw.out k hlt] at hx
                  have HX := Lib.hid (hx.mono LE.out)
                  have FW := Lib.hid fwk
                  have HGd : Hid (OwG w φ φz 46 ao co os w6.drew) := Lib.hid (HG6.out.callB (bdrewN (Below.refl _ w6) 1))
                  have hcf := Lib.hid (fun (ψ : Phi) (W : World) (hl : φz.le ψ) (hf : Fz ψ W) => (⟨(FW.out W (hf.sub (LE.out.trans hl))).1, (FW.out W (hf.sub (LE.out.trans hl))).2.1, (FW.out W (hf.sub (LE.out.trans hl))).2.2, box_cell E1.out hl hf 0, box_cell E1.out hl hf 1, box_cell E1.out hl hf 2, box_cell E2.out hl hf 0, box_cell E2.out hl hf 1, box_cell E2.out hl hf 2⟩ : W.cell? ⟨bw, ow + k * 3, none⟩ = some (.bool gx) ∧ W.cell? ⟨bw, ow + k * 3 + 1, none⟩ = some (.slice ax kx cx) ∧ W.cell? ⟨bw, ow + k * 3 + 2, none⟩ = some (.slice ay ky cy) ∧ W.cell? ⟨b1, 0, none⟩ = some (.bool g1) ∧ W.cell? ⟨b1, 1, none⟩ = some (.slice a1 k1 c1) ∧ W.cell? ⟨b1, 2, none⟩ = some (.slice a2 k2 c2) ∧ W.cell? ⟨b1 + 1, 0, none⟩ = some (.bool g2) ∧ W.cell? ⟨b1 + 1, 1, none⟩ = some (.slice a3 k3 c3) ∧ W.cell? ⟨b1 + 1, 2, none⟩ = some (.slice a4 k4 c4)))
                  have MT := Lib.hid (And.intro HB.out.c3 (And.intro HB.out.c4 (And.intro HB.out.c5 HB.out.c1)))
                  have MV := Lib.hid (And.intro HB.out.c6 (And.intro HB.out.c7 HB.out.c2))
                  clear hx fwk HG HG6 E1 E2
                  obtain ⟨xx0, xx1, x2, x3, x4, x5, x6, x7, x8⟩ := hcf.out φz w6.drew φz.le_refl HGd.out.inv.fz
                  go_region_held_law (fun w' => w'.cell? ⟨bw, ow + k * 3, none⟩ = some (.bool gx) ∧ w'.cell? ⟨bw, ow + k * 3 + 1, none⟩ = some (.slice ax kx cx) ∧ w'.cell? ⟨bw, ow + k * 3 + 2, none⟩ = some (.slice ay ky cy) ∧ w'.cell? ⟨b1, 0, none⟩ = some (.bool g1) ∧ w'.cell? ⟨b1, 1, none⟩ = some (.slice a1 k1 c1) ∧ w'.cell? ⟨b1, 2, none⟩ = some (.slice a2 k2 c2) ∧ w'.cell? ⟨b1 + 1, 0, none⟩ = some (.bool g2) ∧ w'.cell? ⟨b1 + 1, 1, none⟩ = some (.slice a3 k3 c3) ∧ w'.cell? ⟨b1 + 1, 2, none⟩ = some (.slice a4 k4 c4)) (first | with_reducible exact ⟨xx0, xx1, x2, x3, x4, x5, x6, x7, x8⟩ | with_reducible exact ⟨by assumption, by assumption, by assumption, by assumption, by assumption, by assumption, by assumption, by assumption, by assumption⟩ | with_reducible exact ⟨keepAP (by with_reducible assumption), keepAP (by with_reducible assumption), keepAP (by with_reducible assumption), keepAP (by with_reducible assumption), keepAP (by with_reducible assumption), keepAP (by with_reducible assumption), keepAP (by with_reducible assumption), keepAP (by with_reducible assumption), keepAP (by with_reducible assumption)⟩) (first
                    | (refine step_appF (α := Rx NX DX) (by rfl) _ _ _ (by rfl) (slRx _ _) (HGB.out.alloc _).inv ao co os (by rfl) (HGB.out.alloc _).own ⟨wB.heap.size, 0, none⟩ 1 [Rx.mk (wgtQ l k * allQ l k / ownQ l an k)] [.bool gB, .slice aB kB cB, .slice aB' kB' cB'] 1 (by rfl) (by rfl) (RepL.single HREP.out) (new_cells wB #[.bool gB, .slice aB kB cB, .slice aB' kB' cB'] 46) (by show (os.length + 1) * 56 ≤ 140737488355328; omega) ?_; intro a9 c9 w9 hi9 ho9 hg9 hf9; have HF9 := Lib.hid (And.intro hi9 ho9); obtain ⟨gg0, gg1, gg2, gg3, gg4, gg5, gg6, gg7, gg8⟩ := hcf.out φB w9 LB.out hi9.fz; clear hi9 ho9 hg9 hf9)
                    | (go_simp; go_at_call 33; (with_reducible refine (ROver_any hD hM HGA.out.inv.fz VA.out (HUz.out.mono LA.out) HZ.out MV.out.1 MV.out.2.1 MV.out.2.2).mono ?_); rintro e wB ⟨vB, φB, rfl, hiB, hvB⟩; rw [hNX.out, hDX.out] at hvB; obtain ⟨gB, nB, mB, kB, kB', aB, cB, aB', cB', rfl, _⟩ := hvB.open; have HREP := Lib.hid (FrX.repR hvB); have HGB := Lib.hid (HGA.out.call hiB); have LB := Lib.hid (LA.out.trans hiB.le); obtain ⟨ee0, ee1, ee2, ee3, ee4, ee5, ee6, ee7, ee8⟩ := hcf.out φB wB LB.out HGB.out.inv.fz; clear hiB hvB)
                    | (go_simp; go_at_call 23; (with_reducible refine (RTimes_any hD hM HGd.out.inv.fz HX.out HVz.out MT.out.1 MT.out.2.1 MT.out.2.2.1 MT.out.2.2.2).mono ?_); rintro e wA ⟨vA, φA, rfl, hiA, hvA⟩; have HGA := Lib.hid (HGd.out.call hiA); have VA := Lib.hid hvA; have LA := Lib.hid hiA.le; obtain ⟨dd0, dd1, dd2, dd3, dd4, dd5, dd6, dd7, dd8⟩ := hcf.out φA wA LA.out HGA.out.inv.fz; clear hiA hvA))
                  all_goals
                    go_wp2
                    go_roundw
                    case rel => exact ⟨k + 1, a9, c9, os ++ [Rx.mk (wgtQ l k * allQ l k / ownQ l an k)], φB, by omega, by go_num, by rw [List.length_append]; rfl, Lib.hid (by rw [List.length_append, hol.out]; rfl), hx1, hnz2, Lib.hid (LE.out.trans LB.out), Lib.hid ⟨HF9.out.1, HF9.out.2⟩⟩
                    case measure => (simp [intOf] <;> omega)
        · obtain rfl : k = ma := by omega
          have hE := Lib.hid (hRo.out hnz.out)
          obtain ⟨φ2, hl2, hi2, hs2, _⟩ := hS.out.own.release hS.out.inv
          rw [hos.out] at hs2
          have HS2 := Lib.hid hs2
          have HI2 := Lib.hid hi2
          have HP2 := Lib.hid (HP.out.mono hi2.le)
          have hrl : Hid (((List.range k).map (rspX l an)).length = k) := Lib.hid (by simp)
          have hNXM : NX ≤ M := by rw [← hNX.out]; exact HB.out.c6
          have hDXM : DX ≤ M := by rw [← hDX.out]; exact HB.out.c7
          rw [hol.out]
          clear hs2 hi2 hS hos hnz hl2
          go_wp2_with (go_at_call 44; (with_reducible refine (Rshut_any hD hM hNXM hDXM HI2.out.fz HP2.out HS2.out hrl hn3 hE).mono ?_); rintro e w9 ⟨aR, cR, φR, rfl, hiR, hsR⟩; have HIR := Lib.hid (HI2.out.call hiR); have HSR := Lib.hid hsR; clear hiR hsR)
          go_ret2
          exact ⟨aR, cR, φR, rfl, HIR.out, HSR.out⟩
end Go.Proofs.YtdlnhmcgnpjooaaGreatDoor
