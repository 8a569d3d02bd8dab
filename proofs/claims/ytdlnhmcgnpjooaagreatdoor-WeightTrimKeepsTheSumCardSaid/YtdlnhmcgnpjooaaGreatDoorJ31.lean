/- The law WeightRespondKeepsClasses' walk. Conditions: the library's table of powers of ten reads as it was laid. -/
import Derived.Test.YtdlnhmcgnpjooaaGreatDoorJ27
import Derived.Test.YtdlnhmcgnpjooaaGreatDoorJY
import Derived.Outline
namespace Go.Proofs.YtdlnhmcgnpjooaaGreatDoor
open Go.RowKit
set_option linter.unusedVariables false
set_option linter.unusedSimpArgs false
theorem rat_le {n d : ByteArray} (h : RatOk n d) : dV (bodyB n).data.toList ≤ p10 2000 ∧ dV d.data.toList ≤ p10 2000 := by
  have h1 : ∀ {s : Nat}, s ≤ 2000 → 10 ^ s ≤ p10 2000 := fun h => p10_mono h
  exact ⟨Nat.le_trans (Nat.le_of_lt h.num_lt) (h1 h.s1), Nat.le_trans (Nat.le_of_lt h.den_lt) (h1 h.s2)⟩
theorem kKB {P k n m K M : Nat} (hP : Hid (P ≤ 10 ^ k)) (hM : Hid (10 ^ K ≤ M)) (hK : 5 + (k + k) * m ≤ K) (hn : n ≤ m) (hm : m ≤ 10000) : 2 * n * (P * P) ^ n ≤ M ∧ (P * P) ^ n ≤ M := by
  have h1 := ten_pow (ten_mul hP.out hP.out) hn
  have h2 : 2 * n ≤ 10 ^ 5 := by have : (10 : Nat) ^ 5 = 100000 := by decide
                                 omega
  have h3 := ten_mul h2 h1
  exact ⟨Nat.le_trans (ten_le h3 hK) hM.out, Nat.le_trans (ten_le h1 (by omega)) hM.out⟩
theorem kKB_p {k n m K : Nat} (hK : 5 + (k + k) * m ≤ K) (hn : n ≤ m) (hm : m ≤ 10000) : 2 * n * (p10 k * p10 k) ^ n ≤ p10 K ∧ (p10 k * p10 k) ^ n ≤ p10 K := kKB (k := k) (K := K) (Lib.hid (Nat.le_refl _)) (Lib.hid (Nat.le_refl _)) hK hn hm
theorem p10_one {k : Nat} : 1 ≤ p10 k := Nat.pow_pos (by decide)
theorem kpB {B C j : Nat} (h1 : 1 ≤ B) (hC : B * B = C) : 2 * j * C ^ j * B + B * C ^ j ≤ (2 * j * C ^ j * B + B * C ^ j) * B ∧ (2 * j * C ^ j * B + B * C ^ j) * B + B * (C ^ j * B) = 2 * (j + 1) * C ^ (j + 1) ∧ C ^ j * B ≤ C ^ (j + 1) ∧ C ^ j * B * B = C ^ (j + 1) := by
  have e1 : C ^ j * B * B = C ^ (j + 1) := by rw [Nat.mul_assoc, hC, Nat.pow_succ]
  refine ⟨Nat.le_mul_of_pos_right _ h1, ?_, ?_, e1⟩
  · rw [Nat.add_mul, Nat.mul_assoc (2 * j * C ^ j) B B, hC]
    have e2 : B * C ^ j * B = C ^ (j + 1) := by rw [Nat.mul_comm B (C ^ j)]; exact e1
    have e3 : B * (C ^ j * B) = C ^ (j + 1) := by rw [← Nat.mul_assoc]; exact e2
    have e4 : 2 * j * C ^ j * C = 2 * j * C ^ (j + 1) := by rw [Nat.mul_assoc, ← Nat.pow_succ]
    rw [e2, e3, e4]
    have e5 : 2 * (j + 1) * C ^ (j + 1) = 2 * j * C ^ (j + 1) + 2 * C ^ (j + 1) := by rw [Nat.mul_add, Nat.add_mul, Nat.mul_one]
    omega
  · rw [← e1]; exact Nat.le_mul_of_pos_right _ h1
theorem kpM {C j n : Nat} (hC1 : 1 ≤ C) (h : j ≤ n) : 2 * j * C ^ j ≤ 2 * n * C ^ n ∧ C ^ j ≤ C ^ n := ⟨Nat.mul_le_mul (Nat.mul_le_mul_left 2 h) (Nat.pow_le_pow_right hC1 h), Nat.pow_le_pow_right hC1 h⟩
section
variable {T : TypeId} {w0 W : World} {φ0 φ : Phi} {b : Nat} {cs : Array Value} {M : Nat}
theorem RFracOf_S {s t : ByteArray} (h : Hid (RatOk s t)) {x : Rat} (hx : Hid (ratX s t = x)) {N D : Nat} (hB : Hid (dV (bodyB s).data.toList ≤ N ∧ dV t.data.toList ≤ D)) (hS : Hid (RsSt w0 φ0 φ b cs T W)) :
    Calls Tryz.prog 19 #[.agg #[.string s, .string t]] W (fun e w' => ∃ v φ', e = .returned v ∧ Hid (RsSt w0 φ0 φ' b cs T w') ∧ Hid (φ.le φ') ∧ Hid (FrX φ' v x N D)) := by
  refine (RFracOf_any h.out hS.out.inv.fz).mono ?_
  rintro e w' ⟨v, φ', rfl, hi, hv⟩
  rw [hx.out] at hv
  exact ⟨v, φ', rfl, Lib.hid (hS.out.call hi), Lib.hid hi.le, Lib.hid (hv.le hB.out.1 hB.out.2)⟩
theorem RPlus_S (hD : Hid (RdivOk M)) (hM : LenB M) {v1 v2 : Value} {x y : Rat} {N1 D1 N2 D2 : Nat} {ψ : Phi} (h1 : Hid (FrX ψ v1 x N1 D1)) (hl : Hid (ψ.le φ)) (h2 : Hid (FrX φ v2 y N2 D2)) (hM1 : Hid (N1 * D2 + N2 * D1 ≤ M ∧ D1 * D2 ≤ M)) (hS : Hid (RsSt w0 φ0 φ b cs T W)) :
    Calls Tryz.prog 18 #[v1, v2] W (fun e w' => ∃ v φ', e = .returned v ∧ Hid (RsSt w0 φ0 φ' b cs T w') ∧ Hid (φ.le φ') ∧ Hid (FrX φ' v (x + y) (N1 * D2 + N2 * D1) (D1 * D2))) := by
  refine (RPlus_any hD hM hS.out.inv.fz (h1.out.mono hl.out) h2.out hM1.out.1 hM1.out.2).mono ?_
  rintro e w' ⟨v, φ', rfl, hi, hv⟩
  exact ⟨v, φ', rfl, Lib.hid (hS.out.call hi), Lib.hid hi.le, Lib.hid hv⟩
theorem RMinus_S (hD : Hid (RdivOk M)) (hM : LenB M) {v1 v2 : Value} {x y : Rat} {N1 D1 N2 D2 : Nat} {ψ : Phi} (h1 : Hid (FrX ψ v1 x N1 D1)) (hl : Hid (ψ.le φ)) (h2 : Hid (FrX φ v2 y N2 D2)) (hM1 : Hid (N1 * D2 + N2 * D1 ≤ M ∧ D1 * D2 ≤ M)) {N D : Nat} (hN : Hid (N1 * D2 + N2 * D1 ≤ N ∧ D1 * D2 ≤ D)) (hS : Hid (RsSt w0 φ0 φ b cs T W)) :
    Calls Tryz.prog 20 #[v1, v2] W (fun e w' => ∃ (g : Bool) (a1 : Option Addr) (k1 c1 : Nat) (a2 : Option Addr) (k2 c2 : Nat) (φ' : Phi), e = .returned (.agg #[.bool g, .slice a1 k1 c1, .slice a2 k2 c2]) ∧ Hid (RsSt w0 φ0 φ' b cs T w') ∧ Hid (φ.le φ') ∧ Hid (FrX φ' (.agg #[.bool g, .slice a1 k1 c1, .slice a2 k2 c2]) (x - y) N D)) := by
  refine (RMinus_any hD hM hS.out.inv.fz (h1.out.mono hl.out) h2.out hM1.out.1 hM1.out.2).mono ?_
  rintro e w' ⟨v, φ', rfl, hi, hv⟩
  have hv := hv.le hN.out.1 hN.out.2
  obtain ⟨g, n, d, k1, k2, a1, c1, a2, c2, rfl, _⟩ := hv.open
  exact ⟨g, a1, k1, c1, a2, k2, c2, φ', rfl, Lib.hid (hS.out.call hi), Lib.hid hi.le, Lib.hid hv⟩
theorem RsSt.put3 {c0 c1 c2 : Value} (h : RsSt w0 φ0 φ b #[c0, c1, c2] T W) (u0 u1 u2 : Value) : RsSt w0 φ0 φ b #[u0, u1, u2] T (((W.setCell ⟨b, 0, none⟩ u0).setCell ⟨b, 1, none⟩ u1).setCell ⟨b, 2, none⟩ u2) := ((h.set 0 u0).set 1 u1).set 2 u2
end
set_option maxRecDepth 100000 in
set_option maxHeartbeats 4000000 in
theorem kept_core {M : Nat} (hM : LenB M) (hD : Hid (DivOk M)) (hRD : Hid (RdivOk M)) (hM2 : p10 2000 ≤ M) {n : Nat} (hB : Hid (n ≤ 3000 → RpB M 1000000000000 1000000000000 n)) (hKB : Hid (n ≤ 3000 → 2 * n * (p10 2000 * p10 2000) ^ n ≤ M ∧ (p10 2000 * p10 2000) ^ n ≤ M)) {a : Option Addr} {cap : Nat} {l : List Psn} {w : World} {φ : Phi} (hφ : Fz φ w) (hp : PowP φ) (sl : SlV φ a cap l) (hn : Hid (l.length = n)) (hsz : Hid (∀ p ∈ l, PsnG p)) {aa : Option Addr} {ca : Nat} {an : List Bool} (sa : SlV φ aa ca an) {ma : Nat} (hna : Hid (an.length = ma)) :
    Calls Tryz.prog 6 #[.slice a n cap, .slice aa ma ca] w (fun e w' => e = .returned (.bool true) ∧ Below w.heap.size w w') := by
  obtain ⟨L, hL⟩ : ∃ L, (respR l an).1 = L := ⟨_, rfl⟩
  obtain ⟨F, hF⟩ : ∃ F, (respR l an).2 = F := ⟨_, rfl⟩
  have hR : Hid (respR l an = (L, F)) := Lib.hid (by rw [← hL, ← hF])
  have hnl : n ≤ 9223372036854775807 := by have := sl.capn; have := sl.capm; rw [hn.out] at *; unfold maxLen at *; omega
  have HI := Lib.hid (Inv.start hφ)
  have HS := Lib.hid sl
  have HA := Lib.hid sa
  have HP := Lib.hid hp
  have HM2 := Lib.hid hM2
  clear hL hF hφ hp sl sa hM2
  by_cases hF0 : F = 0
  case neg =>
    have hLn := Lib.hid (respR_nil hR.out hF0)
    have hm0 : Hid (L.length = 0) := Lib.hid (by rw [hLn.out]; rfl)
    have h0i : (F == 0) = false := by simp [hF0]
    have h0j : (F != 0) = true := by simp [hF0]
    clear hF0
    go_enter Tryz.func6, Tryz.ntmps6
    go_wp2_with (go_at_call 14; (with_reducible refine (Respond_any hD hM HM2.out hB HI.out.fz HP.out HS.out hn hsz HA.out hna hR).mono ?_); rintro e w1 ⟨a1, c1, φ1, rfl, hi1, s1⟩; rw [show (L, F).1.length = 0 from hm0.out]; have I1 := Lib.hid (HI.out.call hi1); clear hi1 s1)
    go_ret
    exact ⟨rfl, I1.out.bel⟩
  case pos =>
    subst hF0
    obtain ⟨hpp, hal, hO', hLl', hLr'⟩ := respR_good hR.out
    rw [hn.out] at hal hO' hLl' hLr'
    have hO := Lib.hid hO'
    have hLl := Lib.hid hLl'
    have hLr := Lib.hid hLr'
    have hman : ma = n := by rw [← hna.out, hal]
    subst hman
    obtain ⟨hn3', hall⟩ := pplF_ok hpp
    rw [hn.out] at hn3' hall
    have hn3 := hn3'
    have hqw : Hid (∀ k, k < ma → RatOk (l.getD k psn0).1.1 (l.getD k psn0).1.2) := Lib.hid (fun k hk => ratF_ok (shoF_ok (psnF_ok (hall k hk)).1).1)
    have hLk : Hid (∀ k, k < ma → RatOk (L.getD k rti0).1 (L.getD k rti0).2) := Lib.hid (fun k hk => ratF_ok (hLr.out k hk).1)
    have hLx : Hid (∀ k, k < ma → ratX (L.getD k rti0).1 (L.getD k rti0).2 = rspX l an k) := Lib.hid (fun k hk => (hLr.out k hk).2)
    have hqx : Hid (∀ k, ratX (l.getD k psn0).1.1 (l.getD k psn0).1.2 = wgtQ l k) := Lib.hid (fun k => rfl)
    have hgz : Hid (∀ k, k < ma → sumF (gainQ l an k) ma = 0) := Lib.hid (fun k hk => by have := gain_zero (hO.out k hk); rw [hn.out] at this; exact this)
    obtain ⟨q1, q2⟩ := hKB.out hn3
    obtain ⟨B, hBe⟩ : ∃ B, Hid (p10 2000 = B) := ⟨_, Lib.hid rfl⟩
    have hB1 : 1 ≤ B := by rw [← hBe.out]; exact p10_one
    rw [hBe.out] at q1 q2
    obtain ⟨C, hC⟩ : ∃ C, B * B = C := ⟨_, rfl⟩
    rw [hC] at q1 q2
    have hC1 : 1 ≤ C := by rw [← hC]; exact Nat.mul_pos hB1 hB1
    have hst : Hid (∀ j, j < ma → (2 * j * C ^ j * B + B * C ^ j ≤ M ∧ C ^ j * B ≤ M) ∧ ((2 * j * C ^ j * B + B * C ^ j) * B + B * (C ^ j * B) ≤ M ∧ C ^ j * B * B ≤ M) ∧ (2 * j * C ^ j * B + B * C ^ j) * B + B * (C ^ j * B) = 2 * (j + 1) * C ^ (j + 1) ∧ C ^ j * B * B = C ^ (j + 1) ∧ 2 * j * C ^ j ≤ 2 * (j + 1) * C ^ (j + 1) ∧ C ^ j ≤ C ^ (j + 1)) := Lib.hid (fun j hj => by
      obtain ⟨e1, e2, e3, e4⟩ := kpB (j := j) hB1 hC
      obtain ⟨e5, e6⟩ := kpM (j := j + 1) (n := ma) hC1 hj
      obtain ⟨e7, e8⟩ := kpM (j := j) (n := j + 1) hC1 (Nat.le_succ j)
      refine ⟨⟨?_, Nat.le_trans e3 (Nat.le_trans e6 q2)⟩, ⟨?_, ?_⟩, e2, e4, e7, e8⟩
      · exact Nat.le_trans e1 (Nat.le_trans (Nat.le_add_right _ (B * (C ^ j * B))) (by rw [e2]; exact Nat.le_trans e5 q1))
      · rw [e2]; exact Nat.le_trans e5 q1
      · rw [e4]; exact Nat.le_trans e6 q2)
    have hC0 := Lib.hid (fun (ψ : Phi) W (hf : Fz ψ W) => RWhole_any (n := 0) (by decide) (by decide) hf)
    rw [show ((0 : Int) : Rat) = 0 from rfl, show (0 : Int).natAbs = 0 from rfl] at hC0
    clear hpp hal hO' hLl' hLr' hn3' hall q1 q2 hKB hC hO
    go_enter Tryz.func6, Tryz.ntmps6
    go_upto_region 6 with (first
      | (go_at_call 16; (with_reducible refine (sound_any hM HM2.out I1.out.fz HP1.out S1.out hLl (Lib.hid (fun k hk => (hLr.out k hk).1))).mono ?_); rintro e w2 ⟨rfl, hb2⟩; have I2 := Lib.hid (I1.out.callB hb2); clear hb2)
      | (go_at_call 14; (with_reducible refine (Respond_any hD hM HM2.out hB HI.out.fz HP.out HS.out hn hsz HA.out hna hR).mono ?_); rintro e w1 ⟨aL, cL, φ1, rfl, hi1, s1⟩; rw [show (L, (0 : Int)).1.length = ma from hLl.out]; have I1 := Lib.hid (HI.out.call hi1); have S1 := Lib.hid s1; have HP1 := Lib.hid (HP.out.mono hi1.le); clear hi1 s1))
    clear I1
    go_wp2
    go_loopw [35] (fun iv wr => ∃ (k : Nat) (φ' : Phi), k ≤ ma ∧ iv = .int .i64 (k : Int) ∧ Hid (φ1.le φ') ∧ Hid (Inv w.heap.size w φ φ' wr)) (fun iv _ => ma - (intOf iv).toNat)
    case atStart => exact ⟨0, φ1, Nat.zero_le _, rfl, Lib.hid φ1.le_refl, I2⟩
    case round =>
      clear I2
      obtain ⟨k, φ', hk, rfl, hle, hI⟩ := hrel
      by_cases hlt : k < ma
      · have hlti : (k : Int) < (ma : Int) := by omega
        obtain ⟨b, off, rfl, fp⟩ := HS.out.psnsD hn hlt
        obtain ⟨bL, oL, rfl, fl⟩ := S1.out.rtisD hLl hlt
        have FP := Lib.hid fp
        have FL := Lib.hid fl
        obtain ⟨ar0, cr0, _, f2⟩ := fp k hlt
        obtain ⟨d0, d1, d2, d3, d4, d5⟩ := f2 wr (hI.out.fz.sub hI.out.le)
        have hck : Hid (clsI l k = (l.getD k psn0).2.2.1) := Lib.hid rfl
        generalize l.getD k psn0 = p at *
        obtain ⟨⟨s0, t0⟩, cl, x0, y0, z0⟩ := p
        dsimp only at d0 d1 d2 d3 d4 d5 hck
        obtain ⟨m0, hm9⟩ : ∃ m, cl.length = m := ⟨_, rfl⟩
        rw [hm9] at d2
        obtain ⟨φp, lp, ip, ep⟩ := (Inv.start hI.out.fz).frz (.cells #[.string s0, .string t0, .slice ar0 m0 cr0, .int .i64 x0, .int .i64 y0, .int .i64 z0] 43)
        have I1 := Lib.hid (hI.out.call ip)
        have LP := Lib.hid (hle.out.trans lp)
        have EP := Lib.hid ep
        clear fp fl f2 hm9 hI lp ip ep hle
        go_upto_region 9 with fail
        generalize wr.alloc (.cells #[.string s0, .string t0, .slice ar0 m0 cr0, .int .i64 x0, .int .i64 y0, .int .i64 z0] 43) = wa at *
        generalize wr.heap.size = bp at *
        clear d0 d1 d2 d3 d4 d5
        go_upto_region 10 with (go_at_call 17; (with_reducible refine (hC0.out _ _ I1.out.fz).mono ?_); rintro e w5 ⟨v5, φ5, rfl, hi5, hv5⟩; obtain ⟨g1, n5, m5, k1, k2, a1, c1, a2, c2, rfl, _⟩ := hv5.open; have I5 := Lib.hid (I1.out.call hi5); have V5 := Lib.hid hv5; have L5 := Lib.hid hi5.le; clear hi5 hv5)
        have hR0 := Lib.hid (RsSt.start I5.out #[.bool g1, .slice a1 k1 c1, .slice a2 k2 c2] 46)
        have hbL : Hid (bL < w5.heap.size) := Lib.hid (block_lt_of_cell (FL.out k hlt w5 (I5.out.fz.sub (LP.out.trans L5.out))).1)
        clear I1
        generalize w5.alloc (.cells #[.bool g1, .slice a1 k1 c1, .slice a2 k2 c2] 46) = wb at *
        generalize w5.heap.size = b9 at *
        have HV0 : Hid (FrX φ5 (.agg #[.bool g1, .slice a1 k1 c1, .slice a2 k2 c2]) (sumF (gainQ l an k) 0) (2 * 0 * C ^ 0) (C ^ 0)) := Lib.hid (by
          have h := V5.out.le (Nat.zero_le (2 * 0 * C ^ 0)) (Nat.le_of_eq (by simp : 1 = C ^ 0))
          exact h)
        clear V5 I5
        go_wp2
        go_loopw [42] (fun iv wr => ∃ (j : Nat) (φ'' : Phi) (g1 : Bool) (a1 : Option Addr) (k1 c1 : Nat) (a2 : Option Addr) (k2 c2 : Nat), j ≤ ma ∧ iv = .int .i64 (j : Int) ∧ Hid (φp.le φ'') ∧ Hid (RsSt w φ φ'' b9 #[.bool g1, .slice a1 k1 c1, .slice a2 k2 c2] 46 wr) ∧ Hid (FrX φ'' (.agg #[.bool g1, .slice a1 k1 c1, .slice a2 k2 c2]) (sumF (gainQ l an k) j) (2 * j * C ^ j) (C ^ j))) (fun iv _ => ma - (intOf iv).toNat)
        case atStart => exact ⟨0, φ5, g1, a1, k1, c1, a2, k2, c2, Nat.zero_le _, rfl, L5, hR0, HV0⟩
        case round =>
          clear hR0 HV0
          obtain ⟨j, φ'', g1, a1, k1, c1, a2, k2, c2, hj, rfl, hlp, hS, hV⟩ := hrel
          by_cases hjl : j < ma
          · have hjli : (j : Int) < (ma : Int) := by omega
            obtain ⟨ar1, cr1, _, f2⟩ := FP.out j hjl
            obtain ⟨d0, d1, d2, d3, d4, d5⟩ := f2 wr (hS.out.inv.fz.sub hS.out.inv.le)
            have hcj : Hid (clsI l j = (l.getD j psn0).2.2.1) := Lib.hid rfl
            have hok1 := hqw.out j hjl
            have hx1 := hqx.out j
            generalize l.getD j psn0 = p at *
            obtain ⟨⟨s1, t1⟩, cl1, x1, y1, z1⟩ := p
            dsimp only at d0 d1 d2 d3 d4 d5 hcj hok1 hx1
            obtain ⟨m1, hm9⟩ : ∃ m, cl1.length = m := ⟨_, rfl⟩
            rw [hm9] at d2
            have flj := FL.out j hjl
            have hok2 := hLk.out j hjl
            have hx2 := hLx.out j hjl
            generalize (L.getD j rti0).1 = sj at *
            generalize (L.getD j rti0).2 = tj at *
            have FLJ := Lib.hid flj
            have HOK1 := Lib.hid hok1
            have HOK2 := Lib.hid hok2
            have HX1 := Lib.hid hx1
            have HX2 := Lib.hid hx2
            have HB1 := Lib.hid (rat_le hok1)
            have HB2 := Lib.hid (rat_le hok2)
            rw [hBe.out] at HB1 HB2
            have HST := Lib.hid (hst.out j hjl)
            obtain ⟨φj, lj, ij, ej⟩ := (Inv.start hS.out.inv.fz).frz (.cells #[.string s1, .string t1, .slice ar1 m1 cr1, .int .i64 x1, .int .i64 y1, .int .i64 z1] 43)
            have HS1 := Lib.hid (hS.out.call ij)
            have LJ := Lib.hid (hlp.out.trans lj)
            have EJ := Lib.hid ej
            have EPJ := Lib.hid ((hlp.out.trans lj) _ _ EP.out)
            have LL := Lib.hid (LP.out.trans (hlp.out.trans lj))
            have HV1 := Lib.hid (hV.out.mono lj)
            have hcc : Hid (clsI l j = clsI l k ↔ x1 = x0) := Lib.hid (by rw [hcj.out, hck.out])
            have hbj : b9 ≠ wr.heap.size := by have := hS.out.k.lt; omega
            have HBJ := Lib.hid hbj
            clear f2 hm9 lj ij ej hS hV hcj hok1 hok2 hx1 hx2 flj hlp hbj
            go_upto_region 13 with fail
            generalize wr.alloc (.cells #[.string s1, .string t1, .slice ar1 m1 cr1, .int .i64 x1, .int .i64 y1, .int .i64 z1] 43) = wz at *
            generalize wr.heap.size = bj at *
            clear d0 d1 d2 d3 d4 d5
            have u3 : wz.cell? ⟨bj, 3, none⟩ = some (.int .i64 x1) := box_cell EJ.out φj.le_refl HS1.out.inv.fz 3
            have v3 : wz.cell? ⟨bp, 3, none⟩ = some (.int .i64 x0) := box_cell EPJ.out φj.le_refl HS1.out.inv.fz 3
            by_cases hc : x1 = x0
            · have HCC := Lib.hid (hcc.out.2 hc)
              subst hc
              go_upto_region 14 with fail
              clear u3 v3
              have SAd : Hid (RsSt w φ φj b9 #[.bool g1, .slice a1 k1 c1, .slice a2 k2 c2] 46 wz.drew) := Lib.hid (HS1.out.callB (bdrewN (Below.refl _ wz) 1))
              have hcf := Lib.hid (fun (ψ : Phi) (W : World) (hs : Hid (RsSt w φ ψ b9 #[.bool g1, .slice a1 k1 c1, .slice a2 k2 c2] 46 W)) (hl : Hid (φj.le ψ)) => (⟨(FLJ.out W (hs.out.inv.fz.sub (LL.out.trans hl.out))).1, (FLJ.out W (hs.out.inv.fz.sub (LL.out.trans hl.out))).2, box_cell EJ.out hl.out hs.out.inv.fz 0, box_cell EJ.out hl.out hs.out.inv.fz 1, hs.out.k.cell 0, hs.out.k.cell 1, hs.out.k.cell 2⟩ : W.cell? ⟨bL, oL + j * 2, none⟩ = some (.string sj) ∧ W.cell? ⟨bL, oL + j * 2 + 1, none⟩ = some (.string tj) ∧ W.cell? ⟨bj, 0, none⟩ = some (.string s1) ∧ W.cell? ⟨bj, 1, none⟩ = some (.string t1) ∧ W.cell? ⟨b9, 0, none⟩ = some (.bool g1) ∧ W.cell? ⟨b9, 1, none⟩ = some (.slice a1 k1 c1) ∧ W.cell? ⟨b9, 2, none⟩ = some (.slice a2 k2 c2)))
              have LR := Lib.hid φj.le_refl
              obtain ⟨z0', z1', z2', z3', y0', y1', y2'⟩ := hcf.out φj wz.drew SAd LR
              have z0 : wz.cell? ⟨bL, oL + j * 2, none⟩ = some (.string sj) := z0'
              have z1 : wz.cell? ⟨bL, oL + j * 2 + 1, none⟩ = some (.string tj) := z1'
              have z2 : wz.cell? ⟨bj, 0, none⟩ = some (.string s1) := z2'
              have z3 : wz.cell? ⟨bj, 1, none⟩ = some (.string t1) := z3'
              have y0 : wz.cell? ⟨b9, 0, none⟩ = some (.bool g1) := y0'
              have y1 : wz.cell? ⟨b9, 1, none⟩ = some (.slice a1 k1 c1) := y1'
              have y2 : wz.cell? ⟨b9, 2, none⟩ = some (.slice a2 k2 c2) := y2'
              clear z0' z1' z2' z3' y0' y1' y2'
              have M1 : Hid ((2 * j * C ^ j) * B + B * C ^ j ≤ M ∧ C ^ j * B ≤ M) := Lib.hid HST.out.1
              have M2 : Hid ((2 * j * C ^ j * B + B * C ^ j) * B + B * (C ^ j * B) ≤ M ∧ C ^ j * B * B ≤ M) := Lib.hid HST.out.2.1
              have M3 : Hid ((2 * j * C ^ j * B + B * C ^ j) * B + B * (C ^ j * B) ≤ 2 * (j + 1) * C ^ (j + 1) ∧ C ^ j * B * B ≤ C ^ (j + 1)) := Lib.hid ⟨Nat.le_of_eq HST.out.2.2.1, Nat.le_of_eq HST.out.2.2.2.1⟩
              clear HS1 HST hst FP FL FLJ EJ EPJ LL HBJ HP HP1
              apply wp_region_cutV (fun (i : Value × Value × Value × Bool × Option Addr × Nat × Nat × Option Addr × Nat × Nat) => [(52, .agg #[.bool g1, .slice a1 k1 c1, .slice a2 k2 c2]), (53, .slice (some ⟨bL, oL, none⟩) ma cL), (54, .int .i64 (j : Int)), (55, .pointer (some ⟨bL, oL + j * 2, none⟩)), (56, .agg #[.string sj, .string tj]), (57, i.1), (58, i.2.1), (59, .pointer (some ⟨bj, 0, none⟩)), (60, .agg #[.string s1, .string t1]), (61, i.2.2.1), (62, .agg #[.bool i.2.2.2.1, .slice i.2.2.2.2.1 i.2.2.2.2.2.1 i.2.2.2.2.2.2.1, .slice i.2.2.2.2.2.2.2.1 i.2.2.2.2.2.2.2.2.1 i.2.2.2.2.2.2.2.2.2])])
                (fun i W => Hid (∃ φD, φj.le φD ∧ RsSt w φ φD b9 #[.bool i.2.2.2.1, .slice i.2.2.2.2.1 i.2.2.2.2.2.1 i.2.2.2.2.2.2.1, .slice i.2.2.2.2.2.2.2.1 i.2.2.2.2.2.2.2.2.1 i.2.2.2.2.2.2.2.2.2] 46 W ∧ FrX φD (.agg #[.bool i.2.2.2.1, .slice i.2.2.2.2.1 i.2.2.2.2.2.1 i.2.2.2.2.2.2.1, .slice i.2.2.2.2.2.2.2.1 i.2.2.2.2.2.2.2.2.1 i.2.2.2.2.2.2.2.2.2]) (sumF (gainQ l an k) j + rspX l an j - wgtQ l j) (2 * (j + 1) * C ^ (j + 1)) (C ^ (j + 1))))
              case h1 =>
                intro KK hKK
                go_region_law (first
                  | (go_simp; go_at_call 20; (with_reducible refine (RMinus_S hRD hM VB LC VC M2 M3 SC).mono ?_); rintro e wD ⟨gD, aD, kD, cD, aD', kD', cD', φD, rfl, SD, LD, VD⟩; have rf0 := SD.out.k.frz 0; have rf1 := SD.out.k.frz 1; have rf2 := SD.out.k.frz 2; obtain ⟨u0, u1, u2, u3, u4, u5, u6⟩ := hcf.out φD wD SD (Lib.hid (LA.out.trans (LB.out.trans (LC.out.trans LD.out)))))
                  | (go_simp; go_at_call 19; (with_reducible refine (RFracOf_S HOK1 HX1 HB1 SB).mono ?_); rintro e wC ⟨vC, φC, rfl, SC, LC, VC⟩; obtain ⟨p0, p1, p2, p3, p4, p5, p6⟩ := hcf.out φC wC SC (Lib.hid (LA.out.trans (LB.out.trans LC.out))))
                  | (go_simp; go_at_call 18; (with_reducible refine (RPlus_S hRD hM HV1 LA VA M1 SA).mono ?_); rintro e wB ⟨vB, φB, rfl, SB, LB, VB⟩; obtain ⟨o0, o1, o2, o3, o4, o5, o6⟩ := hcf.out φB wB SB (Lib.hid (LA.out.trans LB.out)))
                  | (go_simp; go_at_call 19; (with_reducible refine (RFracOf_S HOK2 HX2 HB2 SAd).mono ?_); rintro e wA ⟨vA, φA, rfl, SA, LA, VA⟩; obtain ⟨n0, n1, n2, n3, n4, n5, n6⟩ := hcf.out φA wA SA LA))
                all_goals
                  refine onlyN_mk ?_
                  have hk := fun W s => hKK.out (vA, vB, vC, gD, aD, kD, cD, aD', kD', cD') W s
                  simp only [updA, List.foldl_cons, List.foldl_nil, List.setIfInBounds_toArray, List.set_cons_succ, List.set_cons_zero] at hk
                  exact hk _ (Lib.hid ⟨φD, LA.out.trans (LB.out.trans (LC.out.trans LD.out)), SD.out.put3 _ _ _, VD.out⟩)
              case h2 =>
                rintro ⟨vA, vB, vC, gD, aD, kD, cD, aD', kD', cD'⟩ wE hE
                simp only [updA, List.foldl_cons, List.foldl_nil, List.setIfInBounds_toArray, List.set_cons_succ, List.set_cons_zero]
                obtain ⟨φD, hlD, hSD, hVD⟩ := hE.out
                have SE := Lib.hid hSD
                have LD := Lib.hid hlD
                have PA : Hid (FrX φD (.agg #[.bool gD, .slice aD kD cD, .slice aD' kD' cD']) (sumF (gainQ l an k) (j + 1)) (2 * (j + 1) * C ^ (j + 1)) (C ^ (j + 1))) := Lib.hid (by rw [gain_eq HCC.out]; exact hVD)
                clear hE hlD hSD hVD z0 z1 z2 z3 y0 y1 y2
                go_wp2
                go_roundw
                case rel => exact ⟨j + 1, φD, gD, aD, kD, cD, aD', kD', cD', by omega, by go_num, Lib.hid (LJ.out.trans LD.out), SE, PA⟩
                case measure => (simp [intOf] <;> omega)
            · have HCC : Hid (¬ clsI l j = clsI l k) := Lib.hid (fun e => hc (hcc.out.1 e))
              have hci : (x1 == x0) = false := by simp [hc]
              have PA : Hid (FrX φj (.agg #[.bool g1, .slice a1 k1 c1, .slice a2 k2 c2]) (sumF (gainQ l an k) (j + 1)) (2 * (j + 1) * C ^ (j + 1)) (C ^ (j + 1))) := Lib.hid (by rw [gain_ne HCC.out]; exact HV1.out.le HST.out.2.2.2.2.1 HST.out.2.2.2.2.2)
              clear hc
              go_wp2
              go_roundw
              case rel => exact ⟨j + 1, φj, g1, a1, k1, c1, a2, k2, c2, by omega, by go_num, LJ, HS1, PA⟩
              case measure => (simp [intOf] <;> omega)
          · obtain rfl : j = ma := by omega
            have hz := hgz.out k hlt
            have hvz := hV.out
            rw [hz] at hvz
            have HVZ := Lib.hid hvz
            have hzb : Hid (decide ((0 : Rat) = 0) = true) := Lib.hid (by simp)
            have y0 : wr.cell? ⟨b9, 0, none⟩ = some (.bool g1) := hS.out.k.cell 0
            have y1 : wr.cell? ⟨b9, 1, none⟩ = some (.slice a1 k1 c1) := hS.out.k.cell 1
            have y2 : wr.cell? ⟨b9, 2, none⟩ = some (.slice a2 k2 c2) := hS.out.k.cell 2
            have LQ := Lib.hid (LP.out.trans hlp.out)
            clear hV hz hvz hst
            go_wp2_with (go_at_call 21; (with_reducible refine (RZero_any hS.out.inv.fz HVZ.out hzb).mono ?_); rintro e w6 ⟨rfl, hb6⟩; have I6 := Lib.hid (hS.out.inv.callB hb6); clear hb6)
            go_roundw
            case rel => exact ⟨k + 1, φ'', by omega, by go_num, LQ, I6⟩
            case measure => (simp [intOf] <;> omega)
      · obtain rfl : k = ma := by omega
        go_wp2
        go_ret
        exact ⟨rfl, hI.out.bel⟩
theorem weightRespondKeepsClasses_walk (w : World) (φ : Phi) (hφ : Fz φ w) (hp : PowP φ) (a : Option Addr) (cap : Nat) (xs : List Psn) (s : SlV φ a cap xs) (g : xs.length * Tryz.prog.bytesOf 43 ≤ reachBytes ∧ ∀ x ∈ xs, GPsnR x) (aa : Option Addr) (ca : Nat) (an : List Bool) (sa : SlV φ aa ca an) (ga : an.length * Tryz.prog.bytesOf 4 ≤ reachBytes ∧ ∀ x ∈ an, True) :
    Calls Tryz.prog 6 #[.slice a xs.length cap, .slice aa an.length ca] w fun e w' => e = .returned (.bool true) ∧ Below w.heap.size w w' :=
  have hM := lenB_p (j := 12000010) (k := 1333335) (by decide) (by decide)
  kept_core hM (Lib.hid (div_any hM)) (Lib.hid (Rdiv_any hM)) (p10_leR (by decide)) (Lib.hid (fun h => rpB_p (by decide) h)) (Lib.hid (fun h => kKB_p (k := 2000) (K := 12000010) (m := 3000) (by decide) h (by decide))) hφ hp s (Lib.hid rfl) (Lib.hid (psnG_ofR g.2)) sa (Lib.hid rfl)
end Go.Proofs.YtdlnhmcgnpjooaaGreatDoor
