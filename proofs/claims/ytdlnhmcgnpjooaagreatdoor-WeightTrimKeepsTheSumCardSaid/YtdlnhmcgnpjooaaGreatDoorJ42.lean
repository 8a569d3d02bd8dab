/- The law WeightTrimKeepsTheSum's walk. Conditions: the library's table of powers of ten reads as it was laid. -/
import Derived.Test.YtdlnhmcgnpjooaaGreatDoorJ41
import Derived.Outline
namespace Go.Proofs.YtdlnhmcgnpjooaaGreatDoor
open Go.RowKit
set_option linter.unusedVariables false
set_option linter.unusedSimpArgs false
theorem kKC_p {k k1 K n : Nat} (hK : 20 + k + k1 ≤ K) (hK2 : 2 * k + 20 ≤ K) (hn : n ≤ 3000) : (p10 k * n * (1000000000000 * p10 k1) + 1000000000000 * p10 k1 * (p10 k * 1) ≤ p10 K ∧ p10 k * 1 * (1000000000000 * p10 k1) ≤ p10 K) ∧ (p10 k * n ≤ p10 K ∧ p10 k * 1 ≤ p10 K ∧ p10 k ≤ p10 K ∧ n ≤ p10 K) ∧ (p10 k * p10 k + p10 k * p10 k ≤ p10 K ∧ p10 k * p10 k ≤ p10 K) := by
  obtain ⟨N, hN⟩ : ∃ N, N = 1000000000000 := ⟨_, rfl⟩
  have a1 : N ≤ 10 ^ 12 := by rw [hN]; decide
  rw [← hN]
  clear hN
  have a0 : n ≤ 10 ^ 4 := by have : (10 : Nat) ^ 4 = 10000 := by decide
                             omega
  have p : ∀ k, p10 k ≤ 10 ^ k := fun k => Nat.le_refl _
  have fin : ∀ {a i k : Nat}, a ≤ 10 ^ i → i ≤ k → a ≤ p10 k := fun h hi => ten_le h hi
  rw [Nat.mul_one]
  have g1 := ten_mul (ten_mul (p k) a0) (ten_mul a1 (p k1))
  have g2 := ten_mul (ten_mul a1 (p k1)) (p k)
  have g3 := ten_mul (p k) (ten_mul a1 (p k1))
  have g4 := ten_mul (p k) (p k)
  exact ⟨⟨fin (ten_add (ten_le g1 (show k + 4 + (12 + k1) ≤ k + 16 + k1 by omega)) (ten_le g2 (show 12 + k1 + k ≤ k + 16 + k1 by omega))) (by omega), fin g3 (by omega)⟩, ⟨fin (ten_mul (p k) a0) (by omega), fin (p k) (by omega), fin (p k) (by omega), fin a0 (by omega)⟩, fin (ten_add g4 g4) (by omega), fin g4 (by omega)⟩
set_option maxRecDepth 100000 in
set_option maxHeartbeats 8000000 in
theorem trimk_core {M K1 K2 KL K3 : Nat} (hM : LenB M) (hD : Hid (DivOk M)) (hRD : Hid (RdivOk M)) (hM2 : p10 2000 ≤ M) {n : Nat} (hB : Hid (n ≤ 3000 → TrB M 1000000000000 K1 K2 KL K3 n)) (hKB : Hid (n ≤ 3000 → 2 * n * (p10 2000 * p10 2000) ^ n ≤ M ∧ (p10 2000 * p10 2000) ^ n ≤ M)) (hKC : Hid (n ≤ 3000 → (p10 2000 * n * (1000000000000 * K1) + 1000000000000 * K1 * (p10 2000 * 1) ≤ M ∧ p10 2000 * 1 * (1000000000000 * K1) ≤ M) ∧ (p10 2000 * n ≤ M ∧ p10 2000 * 1 ≤ M ∧ p10 2000 ≤ M ∧ n ≤ M) ∧ (p10 2000 * p10 2000 + p10 2000 * p10 2000 ≤ M ∧ p10 2000 * p10 2000 ≤ M))) {a : Option Addr} {cap : Nat} {l : List Psn} {w : World} {φ : Phi} (hφ : Fz φ w) (hp : PowP φ) (sl : SlV φ a cap l) (hn : Hid (l.length = n)) (hsz : Hid (∀ p ∈ l, PsnG p)) {s t : ByteArray} (hs : s.size ≤ 9223372036854775807) (ht : t.size ≤ 9223372036854775807) :
    Calls Tryz.prog 7 #[.slice a n cap, .agg #[.string s, .string t]] w (fun e w' => e = .returned (.bool true) ∧ Below w.heap.size w w') := by
  obtain ⟨L, hL⟩ : ∃ L, (trmR l s t).1 = L := ⟨_, rfl⟩
  obtain ⟨q, hq⟩ : ∃ q, (trmR l s t).2.1 = q := ⟨_, rfl⟩
  obtain ⟨F, hF⟩ : ∃ F, (trmR l s t).2.2 = F := ⟨_, rfl⟩
  have hR : Hid (trmR l s t = (L, q, F)) := Lib.hid (by rw [← hL, ← hq, ← hF])
  have hnl : n ≤ 9223372036854775807 := by have := sl.capn; have := sl.capm; rw [hn.out] at *; unfold maxLen at *; omega
  obtain ⟨φb, lb, ib, eb⟩ := (Inv.start hφ).frz (.cells #[.string s, .string t] 29)
  have HI := Lib.hid ib
  have EB := Lib.hid eb
  have HS := Lib.hid (sl.mono lb)
  have HP := Lib.hid (hp.mono lb)
  have HM2 := Lib.hid hM2
  clear hL hq hF hφ hp sl lb ib eb hM2
  by_cases hF0 : F = 0
  case neg =>
    have hLn := Lib.hid (trmR_nil hR.out hF0)
    have hm0 : Hid (L.length = 0) := Lib.hid (by rw [hLn.out]; rfl)
    have h0i : (F == 0) = false := by simp [hF0]
    have h0j : (F != 0) = true := by simp [hF0]
    clear hF0
    go_enter Tryz.func7, Tryz.ntmps7
    go_upto_region 1 with fail
    have u0 : (w.alloc (.cells #[.string s, .string t] 29)).cell? ⟨w.heap.size, 0, none⟩ = some (.string s) := box_cell EB.out φb.le_refl HI.out.fz 0
    have u1 : (w.alloc (.cells #[.string s, .string t] 29)).cell? ⟨w.heap.size, 1, none⟩ = some (.string t) := box_cell EB.out φb.le_refl HI.out.fz 1
    generalize w.alloc (.cells #[.string s, .string t] 29) = wx at *
    go_wp2_with (go_at_call 22; (with_reducible refine (Trim_any hD hM HM2.out hB HI.out.fz HP.out HS.out hn hsz hs ht hR).mono ?_); rintro e w1 ⟨a1, c1, φ1, rfl, hi1, s1⟩; rw [show (L, q, F).1.length = 0 from hm0.out]; have I1 := Lib.hid (HI.out.call hi1); clear hi1 s1)
    go_ret
    exact ⟨rfl, I1.out.bel⟩
  case pos =>
    subst hF0
    obtain ⟨hpp, hsf, hm1', hLl', hLr'⟩ := trmR_good hR.out
    rw [hn.out] at hLl' hLr'
    obtain ⟨hn3', hall⟩ := pplF_ok hpp
    rw [hn.out] at hn3' hall
    have hn3 := hn3'
    obtain ⟨mq, hmq⟩ : ∃ q, Hid (ratX s t = q) := ⟨_, Lib.hid rfl⟩
    rw [hmq.out] at hm1' hLr'
    have hm1 := Lib.hid hm1'
    have hLl := Lib.hid hLl'
    have hLr := Lib.hid hLr'
    have HB := Lib.hid (hB.out hn3)
    obtain ⟨hk1, hk2, hk3⟩ := hKC.out hn3
    obtain ⟨q1, q2⟩ := hKB.out hn3
    have hwp : Hid (∀ j, j < n → 0 < wgtQ l j) := Lib.hid (fun j hj => (psnF_ok (hall j hj)).2)
    have hrk := Lib.hid (ratF_ok (shoF_ok hsf).1)
    have HSH := Lib.hid (sho_lt hsf)
    have hqw : Hid (∀ k, k < n → RatOk (l.getD k psn0).1.1 (l.getD k psn0).1.2) := Lib.hid (fun k hk => ratF_ok (shoF_ok (psnF_ok (hall k hk)).1).1)
    have hqs := Lib.hid (fun k (hk : k < n) => sho_lt (psnF_ok (hall k hk)).1)
    have hLk : Hid (∀ k, k < n → RatOk (L.getD k rti0).1 (L.getD k rti0).2) := Lib.hid (fun k hk => ratF_ok (hLr.out k hk).1)
    have hLx : Hid (∀ k, k < n → ratX (L.getD k rti0).1 (L.getD k rti0).2 = trmX l mq (trC l mq) k) := Lib.hid (fun k hk => (hLr.out k hk).2)
    have hqx : Hid (∀ k, ratX (l.getD k psn0).1.1 (l.getD k psn0).1.2 = wgtQ l k) := Lib.hid (fun k => rfl)
    have hwl : ∀ j, j < l.length → 0 < wgtQ l j := fun j hj => hwp.out j (by rw [← hn.out]; exact hj)
    have htz : Hid (sumF (tgnQ l mq) n = 0) := Lib.hid (by have := tgn_zero hwl hm1.out; rw [hn.out] at this; exact this)
    have htl : Hid (∀ i, i < n → ¬ 0 < cmpQ (trmX l mq (trC l mq) i * (((n : Nat) : Int) : Rat)) (mq * sumF (wgtQ l) n)) := Lib.hid (fun i hi => by
      have := tle_cmp hwl (by rw [hn.out]; omega) hm1.out (i := i) (by rw [hn.out]; exact hi)
      unfold totQ at this
      rw [hn.out] at this
      exact this)
    have hto : Hid (∀ i, i < n → 0 ≤ cmpQ (wgtQ l i) (wgtQ l 0) * cmpQ (trmX l mq (trC l mq) i) (trmX l mq (trC l mq) 0)) := Lib.hid (fun i hi => tor_cmp hwl (by rw [hn.out]; omega) hm1.out (by rw [hn.out]; exact hi) (by rw [hn.out]; omega))
    obtain ⟨N, hN⟩ : ∃ N, N = 1000000000000 := ⟨_, rfl⟩
    rw [← hN] at HB hk1 HSH hqs
    clear hN
    obtain ⟨B, hBe⟩ : ∃ B, Hid (p10 2000 = B) := ⟨_, Lib.hid rfl⟩
    have hB1 : 1 ≤ B := by rw [← hBe.out]; exact p10_one
    rw [hBe.out] at q1 q2 hk1 hk2 hk3
    obtain ⟨C, hC⟩ : ∃ C, B * B = C := ⟨_, rfl⟩
    rw [hC] at q1 q2
    have hC1 : 1 ≤ C := by rw [← hC]; exact Nat.mul_pos hB1 hB1
    have hN1 : 1 ≤ N := HB.out.n1
    have HK1 := Lib.hid hk1
    have HK2 := Lib.hid hk2
    have HK3 := Lib.hid hk3
    have hM1 : Hid (n * N * N ^ n ≤ M ∧ N ^ n ≤ M) := Lib.hid ⟨Nat.le_trans HB.out.s1 HB.out.m6, Nat.le_trans HB.out.s2 HB.out.m6⟩
    have hbd : Hid (∀ k, k < n → (k * N * N ^ k * N + N * N ^ k ≤ M ∧ N ^ k * N ≤ M) ∧ (k * N * N ^ k * N + N * N ^ k ≤ (k + 1) * N * N ^ (k + 1) ∧ N ^ k * N ≤ N ^ (k + 1))) := Lib.hid (fun k hk =>
      ⟨⟨Nat.le_trans (sumB_step hN1) (Nat.le_trans (sumB_mono hN1 hk) hM1.out.1), by rw [← Nat.pow_succ]; exact Nat.le_trans (powB_mono hN1 hk) hM1.out.2⟩, sumB_step hN1, Nat.le_of_eq (Nat.pow_succ ..).symm⟩)
    have hst : Hid (∀ j, j < n → (2 * j * C ^ j * B + B * C ^ j ≤ M ∧ C ^ j * B ≤ M) ∧ ((2 * j * C ^ j * B + B * C ^ j) * B + B * (C ^ j * B) ≤ M ∧ C ^ j * B * B ≤ M) ∧ ((2 * j * C ^ j * B + B * C ^ j) * B + B * (C ^ j * B) ≤ 2 * (j + 1) * C ^ (j + 1) ∧ C ^ j * B * B ≤ C ^ (j + 1))) := Lib.hid (fun j hj => by
      obtain ⟨e1, e2, e3, e4⟩ := kpB (j := j) hB1 hC
      obtain ⟨e5, e6⟩ := kpM (j := j + 1) (n := n) hC1 hj
      refine ⟨⟨?_, Nat.le_trans e3 (Nat.le_trans e6 q2)⟩, ⟨?_, ?_⟩, Nat.le_of_eq e2, Nat.le_of_eq e4⟩
      · exact Nat.le_trans e1 (Nat.le_trans (Nat.le_add_right _ (B * (C ^ j * B))) (by rw [e2]; exact Nat.le_trans e5 q1))
      · rw [e2]; exact Nat.le_trans e5 q1
      · rw [e4]; exact Nat.le_trans e6 q2)
    have hqb : Hid (∀ k, k < n → dV (bodyB (l.getD k psn0).1.1).data.toList ≤ B ∧ dV (l.getD k psn0).1.2.data.toList ≤ B) := Lib.hid (fun k hk => by rw [← hBe.out]; exact rat_le (hqw.out k hk))
    have hLb : Hid (∀ k, k < n → dV (bodyB (L.getD k rti0).1).data.toList ≤ B ∧ dV (L.getD k rti0).2.data.toList ≤ B) := Lib.hid (fun k hk => by rw [← hBe.out]; exact rat_le (hLk.out k hk))
    have hC0 := Lib.hid (fun (ψ : Phi) W (hf : Fz ψ W) => RWhole_any (n := 0) (by decide) (by decide) hf)
    rw [show ((0 : Int) : Rat) = 0 from rfl, show (0 : Int).natAbs = 0 from rfl] at hC0
    clear hpp hsf hm1' hLl' hLr' hn3' hall q1 q2 hKB hC hk1 hk2 hk3 hwl hKC hB1 hC1
    go_enter Tryz.func7, Tryz.ntmps7
    go_upto_region 1 with fail
    have u0 : (w.alloc (.cells #[.string s, .string t] 29)).cell? ⟨w.heap.size, 0, none⟩ = some (.string s) := box_cell EB.out φb.le_refl HI.out.fz 0
    have u1 : (w.alloc (.cells #[.string s, .string t] 29)).cell? ⟨w.heap.size, 1, none⟩ = some (.string t) := box_cell EB.out φb.le_refl HI.out.fz 1
    generalize w.alloc (.cells #[.string s, .string t] 29) = wx at *
    obtain ⟨b3, hb3⟩ : ∃ b, w.heap.size = b := ⟨_, rfl⟩
    rw [hb3] at EB u0 u1 ⊢
    clear hb3
    go_upto_region 7 with (first
      | (go_at_call 17; (with_reducible refine (hC0.out _ _ I3.out.fz).mono ?_); rintro e w4 ⟨v4, φ4, rfl, hi4, hv4⟩; obtain ⟨h1, n4, m4, k3, k4, a3, c3, a4, c4, rfl, _⟩ := hv4.open; have I4 := Lib.hid (I3.out.call hi4); have V4 := Lib.hid hv4; have V34 := Lib.hid (V3.out.mono hi4.le); have L4 := Lib.hid (L3.out.trans hi4.le); clear hi4 hv4)
      | (go_at_call 17; (with_reducible refine (hC0.out _ _ I2.out.fz).mono ?_); rintro e w3 ⟨v3, φ3, rfl, hi3, hv3⟩; obtain ⟨g1, n3', m3, k1, k2, a1, c1, a2, c2, rfl, _⟩ := hv3.open; have I3 := Lib.hid (I2.out.call hi3); have V3 := Lib.hid hv3; have L3 := Lib.hid hi3.le; clear hi3 hv3)
      | (go_at_call 16; (with_reducible refine (sound_any hM HM2.out I1.out.fz HP1.out S1.out hLl (Lib.hid (fun k hk => (hLr.out k hk).1))).mono ?_); rintro e w2 ⟨rfl, hb2⟩; have I2 := Lib.hid (I1.out.callB hb2); clear hb2)
      | (go_at_call 22; (with_reducible refine (Trim_any hD hM HM2.out hB HI.out.fz HP.out HS.out hn hsz hs ht hR).mono ?_); rintro e w1 ⟨aL, cL, φ1, rfl, hi1, s1⟩; rw [show (L, q, (0 : Int)).1.length = n from hLl.out]; have I1 := Lib.hid (HI.out.call hi1); have S1 := Lib.hid s1; have L1 := Lib.hid hi1.le; have HP1 := Lib.hid (HP.out.mono hi1.le); clear hi1 s1))
    have DB0 := Lib.hid (DbS.new I4.out #[.bool g1, .slice a1 k1 c1, .slice a2 k2 c2] #[.bool h1, .slice a3 k3 c3, .slice a4 k4 c4] 46)
    have LB4 := Lib.hid (L1.out.trans L4.out)
    have EB4 := Lib.hid (LB4.out _ _ EB.out)
    have HS4 := Lib.hid (HS.out.mono LB4.out)
    have SL4 := Lib.hid (S1.out.mono L4.out)
    have HA0 : Hid (FrX φ4 (.agg #[.bool g1, .slice a1 k1 c1, .slice a2 k2 c2]) (sumF (wgtQ l) 0) (0 * N * N ^ 0) (N ^ 0)) := Lib.hid (by
      have h := V34.out.le (Nat.zero_le (0 * N * N ^ 0)) (Nat.le_of_eq (by simp : 1 = N ^ 0))
      exact h)
    have HO0 : Hid (FrX φ4 (.agg #[.bool h1, .slice a3 k3 c3, .slice a4 k4 c4]) (sumF (tgnQ l mq) 0) (2 * 0 * C ^ 0) (C ^ 0)) := Lib.hid (by
      have h := V4.out.le (Nat.zero_le (2 * 0 * C ^ 0)) (Nat.le_of_eq (by simp : 1 = C ^ 0))
      exact h)
    clear I1 I2 I3 I4 V3 V4 V34 L1 L3 L4 LB4 EB HS S1 HI hR
    generalize (w4.alloc (.cells #[.bool g1, .slice a1 k1 c1, .slice a2 k2 c2] 46)).alloc (.cells #[.bool h1, .slice a3 k3 c3, .slice a4 k4 c4] 46) = wb at *
    generalize w4.heap.size = b8 at *
    go_wp2
    go_loopw [42] (fun iv wr => ∃ (j : Nat) (φ'' : Phi) (g1 : Bool) (a1 : Option Addr) (k1 c1 : Nat) (a2 : Option Addr) (k2 c2 : Nat) (h1 : Bool) (a3 : Option Addr) (k3 c3 : Nat) (a4 : Option Addr) (k4 c4 : Nat), j ≤ n ∧ iv = .int .i64 (j : Int) ∧ Hid (φ4.le φ'') ∧ Hid (DbS 46 w φ φ'' b8 #[.bool g1, .slice a1 k1 c1, .slice a2 k2 c2] (b8 + 1) #[.bool h1, .slice a3 k3 c3, .slice a4 k4 c4] wr) ∧ Hid (FrX φ'' (.agg #[.bool g1, .slice a1 k1 c1, .slice a2 k2 c2]) (sumF (wgtQ l) j) (j * N * N ^ j) (N ^ j)) ∧ Hid (FrX φ'' (.agg #[.bool h1, .slice a3 k3 c3, .slice a4 k4 c4]) (sumF (tgnQ l mq) j) (2 * j * C ^ j) (C ^ j))) (fun iv _ => n - (intOf iv).toNat)
    case atStart => exact ⟨0, φ4, g1, a1, k1, c1, a2, k2, c2, h1, a3, k3, c3, a4, k4, c4, Nat.zero_le _, rfl, Lib.hid φ4.le_refl, DB0, HA0, HO0⟩
    case round =>
      clear DB0 HA0 HO0
      obtain ⟨j, φ'', g1, a1, k1, c1, a2, k2, c2, h1, a3, k3, c3, a4, k4, c4, hj, rfl, hlp, hS, hV, hU⟩ := hrel
      by_cases hjl : j < n
      · have hjli : (j : Int) < (n : Int) := by omega
        obtain ⟨bl, ol, rfl, fp⟩ := HS4.out.psnsD hn hjl
        obtain ⟨bL, oL, rfl, fl⟩ := SL4.out.rtisD hLl hjl
        obtain ⟨ar1, cr1, _, f2⟩ := fp j hjl
        obtain ⟨d0, d1, d2, d3, d4, d5⟩ := f2 wr (hS.out.a.inv.fz.sub hlp.out)
        have hok1 := hqw.out j hjl
        have hx1 := hqx.out j
        have hn1 := hqs.out j hjl
        have hb1 := hqb.out j hjl
        generalize l.getD j psn0 = p at *
        obtain ⟨⟨s1, t1⟩, cl1, x1, y1, z1⟩ := p
        dsimp only at d0 d1 d2 d3 d4 d5 hok1 hx1 hn1 hb1
        obtain ⟨m1, hm9⟩ : ∃ m, cl1.length = m := ⟨_, rfl⟩
        rw [hm9] at d2
        have flj := fl j hjl
        have hok2 := hLk.out j hjl
        have hx2 := hLx.out j hjl
        have hb2 := hLb.out j hjl
        generalize (L.getD j rti0).1 = sj at *
        generalize (L.getD j rti0).2 = tj at *
        have FLJ := Lib.hid flj
        have HOK1 := Lib.hid hok1
        have HOK2 := Lib.hid hok2
        have HX1 := Lib.hid hx1
        have HX2 := Lib.hid hx2
        have HN1 := Lib.hid hn1
        have HB1 := Lib.hid hb1
        have HB2 := Lib.hid hb2
        have MA1 := Lib.hid (hbd.out j hjl).1
        have MA2 := Lib.hid (hbd.out j hjl).2
        have MD1 := Lib.hid (hst.out j hjl).1
        have MD2 := Lib.hid (hst.out j hjl).2.1
        have MD3 := Lib.hid (hst.out j hjl).2.2
        have MDR : Hid (2 * j * C ^ j * B + B * C ^ j ≤ 2 * j * C ^ j * B + B * C ^ j ∧ C ^ j * B ≤ C ^ j * B) := Lib.hid ⟨Nat.le_refl _, Nat.le_refl _⟩
        obtain ⟨φj, lj, ij, ej⟩ := (Inv.start hS.out.a.inv.fz).frz (.cells #[.string s1, .string t1, .slice ar1 m1 cr1, .int .i64 x1, .int .i64 y1, .int .i64 z1] 43)
        have SD1 := Lib.hid (hS.out.call ij)
        have LJ := Lib.hid (hlp.out.trans lj)
        have EJ := Lib.hid ej
        have HV1 := Lib.hid (hV.out.mono lj)
        have HU1 := Lib.hid (hU.out.mono lj)
        clear f2 hm9 lj ij ej hS hV hU hok1 hok2 hx1 hx2 flj hlp hn1 hb1 hb2 fp fl hbd hst
        go_upto_region 10 with fail
        generalize wr.alloc (.cells #[.string s1, .string t1, .slice ar1 m1 cr1, .int .i64 x1, .int .i64 y1, .int .i64 z1] 43) = wz at *
        generalize wr.heap.size = bj at *
        clear d0 d1 d2 d3 d4 d5
        have hP1 := DbS.sta 46 w φ b8 #[.bool g1, .slice a1 k1 c1, .slice a2 k2 c2] (b8 + 1) #[.bool h1, .slice a3 k3 c3, .slice a4 k4 c4]
        have SDd : Hid (DbS 46 w φ φj b8 #[.bool g1, .slice a1 k1 c1, .slice a2 k2 c2] (b8 + 1) #[.bool h1, .slice a3 k3 c3, .slice a4 k4 c4] wz.drew) := Lib.hid SD1.out.drew
        have hcf := Lib.hid (fun (ψ : Phi) (W : World) (hs : Hid (DbS 46 w φ ψ b8 #[.bool g1, .slice a1 k1 c1, .slice a2 k2 c2] (b8 + 1) #[.bool h1, .slice a3 k3 c3, .slice a4 k4 c4] W)) (hl : Hid (φj.le ψ)) => (⟨box_cell EJ.out hl.out hs.out.a.inv.fz 0, box_cell EJ.out hl.out hs.out.a.inv.fz 1, hs.out.a.k.cell 0, hs.out.a.k.cell 1, hs.out.a.k.cell 2⟩ : W.cell? ⟨bj, 0, none⟩ = some (.string s1) ∧ W.cell? ⟨bj, 1, none⟩ = some (.string t1) ∧ W.cell? ⟨b8, 0, none⟩ = some (.bool g1) ∧ W.cell? ⟨b8, 1, none⟩ = some (.slice a1 k1 c1) ∧ W.cell? ⟨b8, 2, none⟩ = some (.slice a2 k2 c2)))
        have LR := Lib.hid φj.le_refl
        obtain ⟨y0, y1', y2, y3, y4⟩ := hcf.out φj wz SD1 LR
        obtain ⟨x0, x1', x2, x3, x4⟩ := hcf.out φj wz.drew SDd LR
        apply wp_region_cutV (fun (i : Value × Bool × Option Addr × Nat × Nat × Option Addr × Nat × Nat) => [(47, .agg #[.bool g1, .slice a1 k1 c1, .slice a2 k2 c2]), (48, .pointer (some ⟨bj, 0, none⟩)), (49, .agg #[.string s1, .string t1]), (50, i.1), (51, .agg #[.bool i.2.1, .slice i.2.2.1 i.2.2.2.1 i.2.2.2.2.1, .slice i.2.2.2.2.2.1 i.2.2.2.2.2.2.1 i.2.2.2.2.2.2.2])])
          (fun i W => Hid (∃ φD, φj.le φD ∧ DbS 46 w φ φD b8 #[.bool i.2.1, .slice i.2.2.1 i.2.2.2.1 i.2.2.2.2.1, .slice i.2.2.2.2.2.1 i.2.2.2.2.2.2.1 i.2.2.2.2.2.2.2] (b8 + 1) #[.bool h1, .slice a3 k3 c3, .slice a4 k4 c4] W ∧ FrX φD (.agg #[.bool i.2.1, .slice i.2.2.1 i.2.2.2.1 i.2.2.2.2.1, .slice i.2.2.2.2.2.1 i.2.2.2.2.2.2.1 i.2.2.2.2.2.2.2]) (sumF (wgtQ l) j + wgtQ l j) ((j + 1) * N * N ^ (j + 1)) (N ^ (j + 1))))
        case h1 =>
          intro KK hKK
          go_region_law (first
            | (go_simp; go_at_call 18; (with_reducible refine (RPlus_P hP1 hRD hM HV1 LA VA MA1 MA2 SA).mono ?_); rintro e wB ⟨gB, aB, kB, cB, aB', kB', cB', φB, rfl, SB, LB, VB⟩; have rf0 := SB.out.a.k.frz 0; have rf1 := SB.out.a.k.frz 1; have rf2 := SB.out.a.k.frz 2; obtain ⟨o0, o1, o2, o3, o4⟩ := hcf.out φB wB SB (Lib.hid (LA.out.trans LB.out)))
            | (go_simp; go_at_call 19; (with_reducible refine (RFracOf_P hP1 HOK1 HX1 HN1 SDd).mono ?_); rintro e wA ⟨gA, aA, kA, cA, aA', kA', cA', φA, rfl, SA, LA, VA⟩; obtain ⟨n0, n1, n2, n3, n4⟩ := hcf.out φA wA SA LA)
            | fail)
          all_goals
            refine onlyN_mk ?_
            have hk9 := fun W s => hKK.out (.agg #[.bool gA, .slice aA kA cA, .slice aA' kA' cA'], gB, aB, kB, cB, aB', kB', cB') W s
            simp only [updA, List.foldl_cons, List.foldl_nil, List.setIfInBounds_toArray, List.set_cons_succ, List.set_cons_zero] at hk9
            exact hk9 _ (Lib.hid ⟨φB, LA.out.trans LB.out, SB.out.put1 _ _ _, VB.out⟩)
        case h2 =>
          rintro ⟨vA, g5, a5, k5, c5, a6, k6, c6⟩ wE hE
          simp only [updA, List.foldl_cons, List.foldl_nil, List.setIfInBounds_toArray, List.set_cons_succ, List.set_cons_zero]
          obtain ⟨φD, hlD, hSD, hVD⟩ := hE.out
          have SE := Lib.hid hSD
          have LD := Lib.hid hlD
          have PA : Hid (FrX φD (.agg #[.bool g5, .slice a5 k5 c5, .slice a6 k6 c6]) (sumF (wgtQ l) (j + 1)) ((j + 1) * N * N ^ (j + 1)) (N ^ (j + 1))) := Lib.hid hVD
          have HUD := Lib.hid (HU1.out.mono hlD)
          have EJD := Lib.hid (hlD _ _ EJ.out)
          have LJD := Lib.hid (LJ.out.trans hlD)
          clear hE hlD hSD hVD x0 x1' x2 x3 x4 y0 y1' y2 y3 y4 hcf hP1 SDd SD1 HV1 HU1 EJ LJ LR
          go_upto_region 11 with fail
          have hP2 := DbS.sta 46 w φ b8 #[.bool g5, .slice a5 k5 c5, .slice a6 k6 c6] (b8 + 1) #[.bool h1, .slice a3 k3 c3, .slice a4 k4 c4]
          have SEd : Hid (DbS 46 w φ φD b8 #[.bool g5, .slice a5 k5 c5, .slice a6 k6 c6] (b8 + 1) #[.bool h1, .slice a3 k3 c3, .slice a4 k4 c4] wE.drew) := Lib.hid SE.out.drew
          have hcf := Lib.hid (fun (ψ : Phi) (W : World) (hs : Hid (DbS 46 w φ ψ b8 #[.bool g5, .slice a5 k5 c5, .slice a6 k6 c6] (b8 + 1) #[.bool h1, .slice a3 k3 c3, .slice a4 k4 c4] W)) (hl : Hid (φD.le ψ)) => (⟨(FLJ.out W (hs.out.a.inv.fz.sub (LJD.out.trans hl.out))).1, (FLJ.out W (hs.out.a.inv.fz.sub (LJD.out.trans hl.out))).2, box_cell EJD.out hl.out hs.out.a.inv.fz 0, box_cell EJD.out hl.out hs.out.a.inv.fz 1, hs.out.d.k.cell 0, hs.out.d.k.cell 1, hs.out.d.k.cell 2⟩ : W.cell? ⟨bL, oL + j * 2, none⟩ = some (.string sj) ∧ W.cell? ⟨bL, oL + j * 2 + 1, none⟩ = some (.string tj) ∧ W.cell? ⟨bj, 0, none⟩ = some (.string s1) ∧ W.cell? ⟨bj, 1, none⟩ = some (.string t1) ∧ W.cell? ⟨b8 + 1, 0, none⟩ = some (.bool h1) ∧ W.cell? ⟨b8 + 1, 1, none⟩ = some (.slice a3 k3 c3) ∧ W.cell? ⟨b8 + 1, 2, none⟩ = some (.slice a4 k4 c4)))
          have LR := Lib.hid φD.le_refl
          obtain ⟨y0, y1', y2, y3, y4, y5, y6⟩ := hcf.out φD wE SE LR
          obtain ⟨x0, x1', x2, x3, x4, x5, x6⟩ := hcf.out φD wE.drew SEd LR
          apply wp_region_cutV (fun (i : Value × Value × Value × Bool × Option Addr × Nat × Nat × Option Addr × Nat × Nat) => [(52, .agg #[.bool h1, .slice a3 k3 c3, .slice a4 k4 c4]), (53, .slice (some ⟨bL, oL, none⟩) n cL), (54, .int .i64 (j : Int)), (55, .pointer (some ⟨bL, oL + j * 2, none⟩)), (56, .agg #[.string sj, .string tj]), (57, i.1), (58, i.2.1), (59, .pointer (some ⟨bj, 0, none⟩)), (60, .agg #[.string s1, .string t1]), (61, i.2.2.1), (62, .agg #[.bool i.2.2.2.1, .slice i.2.2.2.2.1 i.2.2.2.2.2.1 i.2.2.2.2.2.2.1, .slice i.2.2.2.2.2.2.2.1 i.2.2.2.2.2.2.2.2.1 i.2.2.2.2.2.2.2.2.2])])
            (fun i W => Hid (∃ φG, φD.le φG ∧ DbS 46 w φ φG b8 #[.bool g5, .slice a5 k5 c5, .slice a6 k6 c6] (b8 + 1) #[.bool i.2.2.2.1, .slice i.2.2.2.2.1 i.2.2.2.2.2.1 i.2.2.2.2.2.2.1, .slice i.2.2.2.2.2.2.2.1 i.2.2.2.2.2.2.2.2.1 i.2.2.2.2.2.2.2.2.2] W ∧ FrX φG (.agg #[.bool i.2.2.2.1, .slice i.2.2.2.2.1 i.2.2.2.2.2.1 i.2.2.2.2.2.2.1, .slice i.2.2.2.2.2.2.2.1 i.2.2.2.2.2.2.2.2.1 i.2.2.2.2.2.2.2.2.2]) (sumF (tgnQ l mq) j + trmX l mq (trC l mq) j - wgtQ l j) (2 * (j + 1) * C ^ (j + 1)) (C ^ (j + 1))))
          case h1 =>
            intro KK hKK
            go_region_law (first
              | (go_simp; go_at_call 20; (with_reducible refine (RMinus_P hP2 hRD hM VB LC VC MD2 MD3 SC).mono ?_); rintro e wG ⟨gG, aG, kG, cG, aG', kG', cG', φG, rfl, SG, LG, VG⟩; have rf0 := SG.out.d.k.frz 0; have rf1 := SG.out.d.k.frz 1; have rf2 := SG.out.d.k.frz 2; obtain ⟨u0, u1, u2, u3, u4, u5, u6⟩ := hcf.out φG wG SG (Lib.hid (LA.out.trans (LB.out.trans (LC.out.trans LG.out)))))
              | (go_simp; go_at_call 19; (with_reducible refine (RFracOf_P hP2 HOK1 HX1 HB1 SB).mono ?_); rintro e wC ⟨gC, aC, kC, cC, aC', kC', cC', φC, rfl, SC, LC, VC⟩; obtain ⟨p0, p1, p2, p3, p4, p5, p6⟩ := hcf.out φC wC SC (Lib.hid (LA.out.trans (LB.out.trans LC.out))))
              | (go_simp; go_at_call 18; (with_reducible refine (RPlus_P hP2 hRD hM HUD LA VA MD1 MDR SA).mono ?_); rintro e wB ⟨gB, aB, kB, cB, aB', kB', cB', φB, rfl, SB, LB, VB⟩; obtain ⟨o0, o1, o2, o3, o4, o5, o6⟩ := hcf.out φB wB SB (Lib.hid (LA.out.trans LB.out)))
              | (go_simp; go_at_call 19; (with_reducible refine (RFracOf_P hP2 HOK2 HX2 HB2 SEd).mono ?_); rintro e wA ⟨gA, aA, kA, cA, aA', kA', cA', φA, rfl, SA, LA, VA⟩; obtain ⟨n0, n1, n2, n3, n4, n5, n6⟩ := hcf.out φA wA SA LA)
              | fail)
            all_goals
              refine onlyN_mk ?_
              have hk9 := fun W s => hKK.out (.agg #[.bool gA, .slice aA kA cA, .slice aA' kA' cA'], .agg #[.bool gB, .slice aB kB cB, .slice aB' kB' cB'], .agg #[.bool gC, .slice aC kC cC, .slice aC' kC' cC'], gG, aG, kG, cG, aG', kG', cG') W s
              simp only [updA, List.foldl_cons, List.foldl_nil, List.setIfInBounds_toArray, List.set_cons_succ, List.set_cons_zero] at hk9
              exact hk9 _ (Lib.hid ⟨φG, LA.out.trans (LB.out.trans (LC.out.trans LG.out)), SG.out.put2 _ _ _, VG.out⟩)
          case h2 =>
            rintro ⟨vA', vB', vC', h5, a7, k7, c7, a8, k8, c8⟩ wG hG
            simp only [updA, List.foldl_cons, List.foldl_nil, List.setIfInBounds_toArray, List.set_cons_succ, List.set_cons_zero]
            obtain ⟨φG, hlG, hSG, hVG⟩ := hG.out
            have SG := Lib.hid hSG
            have PB : Hid (FrX φG (.agg #[.bool h5, .slice a7 k7 c7, .slice a8 k8 c8]) (sumF (tgnQ l mq) (j + 1)) (2 * (j + 1) * C ^ (j + 1)) (C ^ (j + 1))) := Lib.hid (by rw [tgn_step]; exact hVG)
            have PAG := Lib.hid (PA.out.mono hlG)
            have LJG := Lib.hid (LJD.out.trans hlG)
            clear hG hlG hSG hVG x0 x1' x2 x3 x4 x5 x6 y0 y1' y2 y3 y4 y5 y6 hcf hP2 SEd SE PA
            go_wp2
            go_roundw
            case rel => exact ⟨j + 1, φG, g5, a5, k5, c5, a6, k6, c6, h5, a7, k7, c7, a8, k8, c8, by omega, by go_num, LJG, SG, PAG, PB⟩
            case measure => (simp [intOf] <;> omega)
      · have hkn : n = j := by omega
        subst hkn
        have hz := htz.out
        have HVZ := Lib.hid (hU.out)
        rw [hz] at HVZ
        have hzb : Hid (decide ((0 : Rat) = 0) = true) := Lib.hid (by simp)
        have v0 : wr.cell? ⟨b8 + 1, 0, none⟩ = some (.bool h1) := hS.out.d.k.cell 0
        have v1 : wr.cell? ⟨b8 + 1, 1, none⟩ = some (.slice a3 k3 c3) := hS.out.d.k.cell 1
        have v2 : wr.cell? ⟨b8 + 1, 2, none⟩ = some (.slice a4 k4 c4) := hS.out.d.k.cell 2
        obtain ⟨φz, lz, iz, e8, _⟩ := hS.out.frz
        have IZ := Lib.hid iz
        have E8 := Lib.hid e8
        have LZ := Lib.hid (hlp.out.trans lz)
        have VZ := Lib.hid (hV.out.mono lz)
        have HVZ2 := Lib.hid (HVZ.out.mono lz)
        have VK : Hid (FrX φz (.agg #[.bool g1, .slice a1 k1 c1, .slice a2 k2 c2]) (sumF (wgtQ l) n) K1 K1) := Lib.hid (VZ.out.le HB.out.s1 HB.out.s2)
        have hnn : Hid (n ≤ n ∧ n ≤ 3000) := Lib.hid ⟨Nat.le_refl _, hn3⟩
        have HT1 : Hid (B * n ≤ M ∧ B * 1 ≤ M ∧ B ≤ M ∧ n ≤ M) := Lib.hid HK2.out
        have HT2 : Hid (B * n ≤ B * n ∧ B * 1 ≤ B * 1) := Lib.hid ⟨Nat.le_refl _, Nat.le_refl _⟩
        have HT3 : Hid (N * K1 ≤ M ∧ N * K1 ≤ M ∧ N ≤ M ∧ K1 ≤ M) := Lib.hid ⟨HB.out.m10, HB.out.m10, Nat.le_trans HB.out.n3 HB.out.m3, HB.out.m6⟩
        have HT4 : Hid (N * K1 ≤ N * K1 ∧ N * K1 ≤ N * K1) := Lib.hid ⟨Nat.le_refl _, Nat.le_refl _⟩
        have HO1 : Hid (B * n * (N * K1) + N * K1 * (B * 1) ≤ M ∧ B * 1 * (N * K1) ≤ M) := Lib.hid HK1.out
        have HO2 : Hid (N * N + N * N ≤ M ∧ N * N ≤ M) := Lib.hid ⟨HB.out.m12, by have := HB.out.m12; omega⟩
        have HO3 : Hid (B * B + B * B ≤ M ∧ B * B ≤ M) := Lib.hid HK3.out
        have hP := Inv.sta w φ
        clear hz HVZ lz iz e8 hS hV hU hlp hst hbd htz VZ hzb
        have hzb : Hid (decide ((0 : Rat) = 0) = true) := Lib.hid (by simp)
        go_upto_region 15 with (go_at_call 21; (with_reducible refine (RZero_any IZ.out.fz HVZ2.out hzb).mono ?_); rintro e w6 ⟨rfl, hb6⟩; have I6 := Lib.hid (IZ.out.callB hb6); clear hb6)
        clear v0 v1 v2 HVZ2 hzb
        go_wp2
        go_loopw [69] (fun iv wr => ∃ (k : Nat) (φ'' : Phi), k ≤ n ∧ iv = .int .i64 (k : Int) ∧ Hid (φz.le φ'') ∧ Hid (Inv w.heap.size w φ φ'' wr)) (fun iv _ => n - (intOf iv).toNat)
        case atStart => exact ⟨0, φz, Nat.zero_le _, rfl, Lib.hid φz.le_refl, I6⟩
        case round =>
          clear I6 IZ
          rename World => wr
          obtain ⟨k, φ'', hk, rfl, hlz, hI⟩ := hrel
          by_cases hlt : k < n
          · have hlti : (k : Int) < (n : Int) := by omega
            have hn0 : 0 < n := by omega
            have hn0i : (0 : Int) < (n : Int) := by omega
            obtain ⟨bl, ol, rfl, fp⟩ := HS4.out.psnsD hn hlt
            obtain ⟨bL, oL, rfl, fl⟩ := SL4.out.rtisD hLl hlt
            have LQ := Lib.hid (LZ.out.trans hlz.out)
            obtain ⟨ar1, cr1, _, f2⟩ := fp k hlt
            obtain ⟨d0, d1, d2, d3, d4, d5⟩ := f2 wr (hI.out.fz.sub LQ.out)
            have HOK1 := Lib.hid (hqw.out k hlt)
            have HX1 := Lib.hid (hqx.out k)
            have HN1 := Lib.hid (hqs.out k hlt)
            have FP0 := Lib.hid (fp 0 hn0)
            generalize l.getD k psn0 = p at d0 d1 d2 d3 d4 d5 HOK1 HX1 HN1
            obtain ⟨⟨s1, t1⟩, cl1, x1, y1, z1⟩ := p
            dsimp only at d0 d1 d2 d3 d4 d5 HOK1 HX1 HN1
            obtain ⟨m1, hm9⟩ : ∃ m, cl1.length = m := ⟨_, rfl⟩
            rw [hm9] at d2
            have flk := fl k hlt
            have HOK2 := Lib.hid (hLk.out k hlt)
            have HX2 := Lib.hid (hLx.out k hlt)
            have HB2 := Lib.hid (hLb.out k hlt)
            have flz := fl 0 hn0
            have HOK3 := Lib.hid (hLk.out 0 hn0)
            have HX3 := Lib.hid (hLx.out 0 hn0)
            have HB3 := Lib.hid (hLb.out 0 hn0)
            generalize (L.getD k rti0).1 = sj at flk HOK2 HX2 HB2
            generalize (L.getD k rti0).2 = tj at flk HOK2 HX2 HB2
            generalize (L.getD 0 rti0).1 = sz at flz HOK3 HX3 HB3
            generalize (L.getD 0 rti0).2 = tz at flz HOK3 HX3 HB3
            have FLK := Lib.hid flk
            have FLZ := Lib.hid flz
            obtain ⟨q1, hq1⟩ : ∃ x, Hid (cmpQ (trmX l mq (trC l mq) k * (((n : Nat) : Int) : Rat)) (mq * sumF (wgtQ l) n) = x) := ⟨_, Lib.hid rfl⟩
            have hq1n : ¬ 0 < q1 := by rw [← hq1.out]; have := htl.out k hlt; omega
            have hq1d : decide (0 < q1) = false := decide_eq_false hq1n
            obtain ⟨q2, hq2⟩ : ∃ x, Hid (cmpQ (wgtQ l k) (wgtQ l 0) = x) := ⟨_, Lib.hid rfl⟩
            obtain ⟨q3, hq3⟩ : ∃ x, Hid (cmpQ (trmX l mq (trC l mq) k) (trmX l mq (trC l mq) 0) = x) := ⟨_, Lib.hid rfl⟩
            have h23 : 0 ≤ q2 * q3 := by rw [← hq2.out, ← hq3.out]; exact hto.out k hlt
            have hw23 : IntKind.i64.wrap (q2 * q3) = q2 * q3 := by
              have b2 := cmpQ_bd (wgtQ l k) (wgtQ l 0)
              have b3' := cmpQ_bd (trmX l mq (trC l mq) k) (trmX l mq (trC l mq) 0)
              rw [hq2.out] at b2
              rw [hq3.out] at b3'
              have e2 : q2 = -1 ∨ q2 = 0 ∨ q2 = 1 := by omega
              have e3 : q3 = -1 ∨ q3 = 0 ∨ q3 = 1 := by omega
              rcases e2 with rfl | rfl | rfl <;> rcases e3 with rfl | rfl | rfl <;> decide
            have h23n : ¬ q2 * q3 < 0 := by omega
            have h23d : decide (q2 * q3 < 0) = false := decide_eq_false h23n
            obtain ⟨φj, lj, ij, ej⟩ := (Inv.start hI.out.fz).frz (.cells #[.string s1, .string t1, .slice ar1 m1 cr1, .int .i64 x1, .int .i64 y1, .int .i64 z1] 43)
            have I1 := Lib.hid (hI.out.call ij)
            have LJ := Lib.hid (LQ.out.trans lj)
            have LJZ := Lib.hid (hlz.out.trans lj)
            have EJ := Lib.hid ej
            have E3 := Lib.hid (LJ.out _ _ EB4.out)
            have E8j := Lib.hid (LJZ.out _ _ E8.out)
            have VKj := Lib.hid (VK.out.mono LJZ.out)
            have hlk := Lib.hid hlz.out
            clear f2 hm9 lj ij ej hI flk flz fp fl LQ hlz
            go_upto_region 18 with fail
            generalize wr.alloc (.cells #[.string s1, .string t1, .slice ar1 m1 cr1, .int .i64 x1, .int .i64 y1, .int .i64 z1] 43) = wz at *
            generalize wr.heap.size = bj at *
            clear d0 d1 d2 d3 d4 d5
            have Id : Hid (Inv w.heap.size w φ φj wz.drew) := Lib.hid I1.out.drew
            have hcf := Lib.hid (fun (ψ : Phi) (w' : World) (hs : Hid (Inv w.heap.size w φ ψ w')) (hl : Hid (φj.le ψ)) => (⟨(FLK.out w' (hs.out.fz.sub (LJ.out.trans hl.out))).1, (FLK.out w' (hs.out.fz.sub (LJ.out.trans hl.out))).2, box_cell E3.out hl.out hs.out.fz 0, box_cell E3.out hl.out hs.out.fz 1, box_cell E8j.out hl.out hs.out.fz 0, box_cell E8j.out hl.out hs.out.fz 1, box_cell E8j.out hl.out hs.out.fz 2⟩ : w'.cell? ⟨bL, oL + k * 2, none⟩ = some (.string sj) ∧ w'.cell? ⟨bL, oL + k * 2 + 1, none⟩ = some (.string tj) ∧ w'.cell? ⟨b3, 0, none⟩ = some (.string s) ∧ w'.cell? ⟨b3, 1, none⟩ = some (.string t) ∧ w'.cell? ⟨b8, 0, none⟩ = some (.bool g1) ∧ w'.cell? ⟨b8, 1, none⟩ = some (.slice a1 k1 c1) ∧ w'.cell? ⟨b8, 2, none⟩ = some (.slice a2 k2 c2)))
            have LR := Lib.hid φj.le_refl
            obtain ⟨yy0, yy1, yy2, yy3, yy4, yy5, yy6⟩ := hcf.out φj wz I1 LR
            obtain ⟨xx0, xx1, xx2, xx3, xx4, xx5, xx6⟩ := hcf.out φj wz.drew Id LR
            go_region_held3 (fun w' => w'.cell? ⟨bL, oL + k * 2, none⟩ = some (.string sj) ∧ w'.cell? ⟨bL, oL + k * 2 + 1, none⟩ = some (.string tj) ∧ w'.cell? ⟨b3, 0, none⟩ = some (.string s) ∧ w'.cell? ⟨b3, 1, none⟩ = some (.string t) ∧ w'.cell? ⟨b8, 0, none⟩ = some (.bool g1) ∧ w'.cell? ⟨b8, 1, none⟩ = some (.slice a1 k1 c1) ∧ w'.cell? ⟨b8, 2, none⟩ = some (.slice a2 k2 c2)) (first | done | with_reducible exact ⟨xx0, xx1, xx2, xx3, xx4, xx5, xx6⟩ | with_reducible exact ⟨by assumption, by assumption, by assumption, by assumption, by assumption, by assumption, by assumption⟩ | fail) (first
              | ((with_reducible refine (ROrder_P hP hRD hM VC (Lib.hid (LD.out.trans LE.out)) VE (Lib.hid φE.le_refl) HO1 hq1 SE).mono ?_); rintro e wF ⟨φF, rfl, SF, LF⟩; obtain ⟨uu0, uu1, uu2, uu3, uu4, uu5, uu6⟩ := hcf.out φF wF SF (Lib.hid (LA.out.trans (LB.out.trans (LC.out.trans (LD.out.trans (LE.out.trans LF.out)))))))
              | ((with_reducible refine (RTimes_P hP hRD hM VD (Lib.hid φD.le_refl) VKj (Lib.hid (LA.out.trans (LB.out.trans (LC.out.trans LD.out)))) HT3 HT4 SD).mono ?_); rintro e wE ⟨gE, aE, kE, cE, aE', kE', cE', φE, rfl, SE, LE, VE⟩; obtain ⟨tt0, tt1, tt2, tt3, tt4, tt5, tt6⟩ := hcf.out φE wE SE (Lib.hid (LA.out.trans (LB.out.trans (LC.out.trans (LD.out.trans LE.out))))))
              | ((with_reducible refine (RFracOf_P hP hrk hmq HSH SC).mono ?_); rintro e wD ⟨gD, aD, kD, cD, aD', kD', cD', φD, rfl, SD, LD, VD⟩; obtain ⟨ss0, ss1, ss2, ss3, ss4, ss5, ss6⟩ := hcf.out φD wD SD (Lib.hid (LA.out.trans (LB.out.trans (LC.out.trans LD.out)))))
              | ((with_reducible refine (RTimes_P hP hRD hM VA LB VB (Lib.hid φB.le_refl) HT1 HT2 SB).mono ?_); rintro e wC ⟨gC, aC, kC, cC, aC', kC', cC', φC, rfl, SC, LC, VC⟩; obtain ⟨rr0, rr1, rr2, rr3, rr4, rr5, rr6⟩ := hcf.out φC wC SC (Lib.hid (LA.out.trans (LB.out.trans LC.out))))
              | ((with_reducible refine (RWhole_P hP hnn SA).mono ?_); rintro e wB ⟨gB, aB, kB, cB, aB', kB', cB', φB, rfl, SB, LB, VB⟩; obtain ⟨pp0, pp1, pp2, pp3, pp4, pp5, pp6⟩ := hcf.out φB wB SB (Lib.hid (LA.out.trans LB.out)))
              | ((with_reducible refine (RFracOf_P hP HOK2 HX2 HB2 Id).mono ?_); rintro e wA ⟨gA, aA, kA, cA, aA', kA', cA', φA, rfl, SA, LA, VA⟩; obtain ⟨oo0, oo1, oo2, oo3, oo4, oo5, oo6⟩ := hcf.out φA wA SA LA)
              | fail)
            all_goals
              have LF2 := Lib.hid (LA.out.trans (LB.out.trans (LC.out.trans (LD.out.trans (LE.out.trans LF.out)))))
              clear yy0 yy1 yy2 yy3 yy4 yy5 yy6 xx0 xx1 xx2 xx3 xx4 xx5 xx6 oo0 oo1 oo2 oo3 oo4 oo5 oo6 pp0 pp1 pp2 pp3 pp4 pp5 pp6 rr0 rr1 rr2 rr3 rr4 rr5 rr6 ss0 ss1 ss2 ss3 ss4 ss5 ss6 tt0 tt1 tt2 tt3 tt4 tt5 tt6 uu0 uu1 uu2 uu3 uu4 uu5 uu6 hcf VA VB VC VD VE SA SB SC SD SE LR Id I1 VKj E3 E8j LA LB LC LD LE LF
              obtain ⟨ar2, cr2, _, f3⟩ := FP0.out
              obtain ⟨d0, d1, d2, d3, d4, d5⟩ := f3 wF (SF.out.fz.sub (LJ.out.trans LF2.out))
              simp only [Nat.zero_mul, Nat.add_zero] at d0 d1 d2 d3 d4 d5
              have HOK4 := Lib.hid (hqw.out 0 hn0)
              have HX4 := Lib.hid (hqx.out 0)
              have HN4 := Lib.hid (hqs.out 0 hn0)
              generalize l.getD 0 psn0 = p at d0 d1 d2 d3 d4 d5 HOK4 HX4 HN4
              obtain ⟨⟨s2, t2⟩, cl2, x2, y2, z2⟩ := p
              dsimp only at d0 d1 d2 d3 d4 d5 HOK4 HX4 HN4
              obtain ⟨m2, hm9⟩ : ∃ m, cl2.length = m := ⟨_, rfl⟩
              rw [hm9] at d2
              obtain ⟨φq, lq, iq, eq9⟩ := (Inv.start SF.out.fz).frz (.cells #[.string s2, .string t2, .slice ar2 m2 cr2, .int .i64 x2, .int .i64 y2, .int .i64 z2] 43)
              have I2 := Lib.hid (SF.out.call iq)
              have EQ := Lib.hid eq9
              have LFQ := Lib.hid (LF2.out.trans lq)
              have EJQ := Lib.hid (LFQ.out _ _ EJ.out)
              have LJQ := Lib.hid (LJ.out.trans LFQ.out)
              have LKQ := Lib.hid (LJZ.out.trans LFQ.out)
              clear f3 hm9 lq iq eq9 SF FP0
              go_upto_region 21 with fail
              generalize wF.alloc (.cells #[.string s2, .string t2, .slice ar2 m2 cr2, .int .i64 x2, .int .i64 y2, .int .i64 z2] 43) = wy at *
              generalize wF.heap.size = bq at *
              clear d0 d1 d2 d3 d4 d5
              have Id : Hid (Inv w.heap.size w φ φq wy.drew) := Lib.hid I2.out.drew
              have hcf := Lib.hid (fun (ψ : Phi) (w' : World) (hs : Hid (Inv w.heap.size w φ ψ w')) (hl : Hid (φq.le ψ)) => (⟨box_cell EJQ.out hl.out hs.out.fz 0, box_cell EJQ.out hl.out hs.out.fz 1, box_cell EQ.out hl.out hs.out.fz 0, box_cell EQ.out hl.out hs.out.fz 1, (FLK.out w' (hs.out.fz.sub (LJQ.out.trans hl.out))).1, (FLK.out w' (hs.out.fz.sub (LJQ.out.trans hl.out))).2, (FLZ.out w' (hs.out.fz.sub (LJQ.out.trans hl.out))).1, (FLZ.out w' (hs.out.fz.sub (LJQ.out.trans hl.out))).2⟩ : w'.cell? ⟨bj, 0, none⟩ = some (.string s1) ∧ w'.cell? ⟨bj, 1, none⟩ = some (.string t1) ∧ w'.cell? ⟨bq, 0, none⟩ = some (.string s2) ∧ w'.cell? ⟨bq, 1, none⟩ = some (.string t2) ∧ w'.cell? ⟨bL, oL + k * 2, none⟩ = some (.string sj) ∧ w'.cell? ⟨bL, oL + k * 2 + 1, none⟩ = some (.string tj) ∧ w'.cell? ⟨bL, oL, none⟩ = some (.string sz) ∧ w'.cell? ⟨bL, oL + 1, none⟩ = some (.string tz)))
              have LR := Lib.hid φq.le_refl
              obtain ⟨yy0, yy1, yy2, yy3, yy4, yy5, yy6, yy7⟩ := hcf.out φq wy I2 LR
              obtain ⟨xx0, xx1, xx2, xx3, xx4, xx5, xx6, xx7⟩ := hcf.out φq wy.drew Id LR
              go_region_held3 (fun w' => w'.cell? ⟨bj, 0, none⟩ = some (.string s1) ∧ w'.cell? ⟨bj, 1, none⟩ = some (.string t1) ∧ w'.cell? ⟨bq, 0, none⟩ = some (.string s2) ∧ w'.cell? ⟨bq, 1, none⟩ = some (.string t2) ∧ w'.cell? ⟨bL, oL + k * 2, none⟩ = some (.string sj) ∧ w'.cell? ⟨bL, oL + k * 2 + 1, none⟩ = some (.string tj) ∧ w'.cell? ⟨bL, oL, none⟩ = some (.string sz) ∧ w'.cell? ⟨bL, oL + 1, none⟩ = some (.string tz)) (first | done | with_reducible exact ⟨xx0, xx1, xx2, xx3, xx4, xx5, xx6, xx7⟩ | with_reducible exact ⟨by assumption, by assumption, by assumption, by assumption, by assumption, by assumption, by assumption, by assumption⟩ | fail) (first
                | ((with_reducible refine (ROrder_P hP hRD hM VD LE VE (Lib.hid φE.le_refl) HO3 hq3 SE).mono ?_); rintro e wG ⟨φG, rfl, SG, LG⟩; obtain ⟨uu0, uu1, uu2, uu3, uu4, uu5, uu6, uu7⟩ := hcf.out φG wG SG (Lib.hid (LA.out.trans (LB.out.trans (LC.out.trans (LD.out.trans (LE.out.trans LG.out)))))))
                | ((with_reducible refine (RFracOf_P hP HOK3 HX3 HB3 SD).mono ?_); rintro e wE ⟨gE, aE, kE, cE, aE', kE', cE', φE, rfl, SE, LE, VE⟩; obtain ⟨tt0, tt1, tt2, tt3, tt4, tt5, tt6, tt7⟩ := hcf.out φE wE SE (Lib.hid (LA.out.trans (LB.out.trans (LC.out.trans (LD.out.trans LE.out))))))
                | ((with_reducible refine (RFracOf_P hP HOK2 HX2 HB2 SC).mono ?_); rintro e wD ⟨gD, aD, kD, cD, aD', kD', cD', φD, rfl, SD, LD, VD⟩; obtain ⟨ss0, ss1, ss2, ss3, ss4, ss5, ss6, ss7⟩ := hcf.out φD wD SD (Lib.hid (LA.out.trans (LB.out.trans (LC.out.trans LD.out)))))
                | ((with_reducible refine (ROrder_P hP hRD hM VA LB VB (Lib.hid φB.le_refl) HO2 hq2 SB).mono ?_); rintro e wC ⟨φC, rfl, SC, LC⟩; obtain ⟨rr0, rr1, rr2, rr3, rr4, rr5, rr6, rr7⟩ := hcf.out φC wC SC (Lib.hid (LA.out.trans (LB.out.trans LC.out))))
                | ((with_reducible refine (RFracOf_P hP HOK4 HX4 HN4 SA).mono ?_); rintro e wB ⟨gB, aB, kB, cB, aB', kB', cB', φB, rfl, SB, LB, VB⟩; obtain ⟨pp0, pp1, pp2, pp3, pp4, pp5, pp6, pp7⟩ := hcf.out φB wB SB (Lib.hid (LA.out.trans LB.out)))
                | ((with_reducible refine (RFracOf_P hP HOK1 HX1 HN1 Id).mono ?_); rintro e wA ⟨gA, aA, kA, cA, aA', kA', cA', φA, rfl, SA, LA, VA⟩; obtain ⟨oo0, oo1, oo2, oo3, oo4, oo5, oo6, oo7⟩ := hcf.out φA wA SA LA)
                | fail)
              all_goals
                have LG2 := Lib.hid (LKQ.out.trans (LA.out.trans (LB.out.trans (LC.out.trans (LD.out.trans (LE.out.trans LG.out))))))
                clear yy0 yy1 yy2 yy3 yy4 yy5 yy6 yy7 xx0 xx1 xx2 xx3 xx4 xx5 xx6 xx7 oo0 oo1 oo2 oo3 oo4 oo5 oo6 oo7 pp0 pp1 pp2 pp3 pp4 pp5 pp6 pp7 rr0 rr1 rr2 rr3 rr4 rr5 rr6 rr7 ss0 ss1 ss2 ss3 ss4 ss5 ss6 ss7 tt0 tt1 tt2 tt3 tt4 tt5 tt6 tt7 uu0 uu1 uu2 uu3 uu4 uu5 uu6 uu7 hcf
                go_wp2
                go_roundw
                case rel => exact ⟨k + 1, φG, by omega, by go_num, LG2, SG⟩
                case measure => (simp [intOf] <;> omega)
          · have hkn : n = k := by omega
            subst hkn
            go_wp2
            go_ret
            exact ⟨rfl, hI.out.bel⟩
theorem weightTrimKeepsTheSum_walk (w : World) (φ : Phi) (hφ : Fz φ w) (hp : PowP φ) (a : Option Addr) (cap : Nat) (xs : List Psn) (s : SlV φ a cap xs) (g : xs.length * Tryz.prog.bytesOf 43 ≤ reachBytes ∧ ∀ x ∈ xs, GPsnR x) (cs : Array Value) (x : Rti) (hx : Rep.rep φ x cs.toList) (gx : StrG x.1 ∧ StrG x.2) :
    Calls Tryz.prog 7 #[.slice a xs.length cap, .agg cs] w fun e w' => e = .returned (.bool true) ∧ Below w.heap.size w w' := by
  obtain ⟨c, d, hcd, hc, hd⟩ := hx
  have e : cs = #[.string x.1, .string x.2] := by
    apply Array.toList_inj.1
    rw [hcd, hc, hd]; rfl
  rw [e]
  have hM := lenB_p (j := 12000010) (k := 1333335) (by decide) (by decide)
  have g1 := gx.1
  have g2 := gx.2
  unfold StrG reachBytes at g1 g2
  exact trimk_core hM (Lib.hid (div_any hM)) (Lib.hid (Rdiv_any hM)) (p10_leR (by decide)) (Lib.hid (fun h => trB_p (k1 := 36020) (k2 := 36040) (kl := 72070) (k3 := 108110) (by decide) (by decide) (by decide) (by decide) (by decide) h)) (Lib.hid (fun h => kKB_p (k := 2000) (K := 12000010) (m := 3000) (by decide) h (by decide))) (Lib.hid (fun h => kKC_p (k := 2000) (k1 := 36020) (K := 12000010) (by decide) (by decide) h)) hφ hp s (Lib.hid rfl) (Lib.hid (psnG_ofR g.2)) (by omega) (by omega)
end Go.Proofs.YtdlnhmcgnpjooaaGreatDoor
