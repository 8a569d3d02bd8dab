/- Rows of the reference's exact numbers of a call's own, slices.Clone, contracts beside a new cell. The walk of the reference's Trim. Conditions: the library's table of powers of ten reads as it was laid. The law WeightTrimsMatchSpec's walk. Conditions: the library's table of powers of ten reads as it was laid. Conditions: none beyond what the claim form gives. -/
import Derived.Test.YtdlnhmcgnpjooaaGreatDoorJT
import Derived.Test.YtdlnhmcgnpjooaaGreatDoorJ24
import Derived.Test.YtdlnhmcgnpjooaaGreatDoorJ27
namespace Go.Proofs.YtdlnhmcgnpjooaaGreatDoor
open Go.RowKit
set_option linter.unusedVariables false
set_option linter.unusedSimpArgs false
theorem repL_rawR {φ : Phi} {N D : Nat} : ∀ {xs : List (Rx N D)} {cells : List Value}, RepL φ xs cells → ∃ rs : List Raw3, RepL φ rs cells ∧ rs.length = xs.length ∧ ∀ m, m < rs.length → FrX φ (rs.getD m raw0).v (xs.getD m ⟨0⟩).x N D
  | [], cells, h => ⟨[], h, rfl, fun m hm => absurd hm (Nat.not_lt_zero m)⟩
  | x :: xs, cells, h => by
    obtain ⟨cs, rest, rfl, ⟨g, a1, k1, c1, a2, k2, c2, rfl, hx⟩, hr⟩ := h
    obtain ⟨rs, h1, h2, h3⟩ := repL_rawR hr
    refine ⟨⟨g, a1, k1, c1, a2, k2, c2⟩ :: rs, ⟨_, rest, rfl, rfl, h1⟩, by simp [h2], fun m hm => ?_⟩
    cases m with
    | zero => exact hx
    | succ m =>
      have := h3 m (by simpa using hm)
      simpa using this
theorem rawL_rx {φ : Phi} {N D : Nat} : ∀ {rs : List Raw3} {xs : List Rat} {cells : List Value}, RepL φ rs cells → rs.length = xs.length → (∀ m, m < rs.length → FrX φ (rs.getD m raw0).v (xs.getD m 0) N D) → RepL φ (xs.map (Rx.mk (N := N) (D := D))) cells
  | [], [], cells, h, _, _ => h
  | [], x :: xs, _, _, hl, _ => by simp at hl
  | r :: rs, [], _, _, hl, _ => by simp at hl
  | r :: rs, x :: xs, cells, h, hl, hx => by
    obtain ⟨cs, rest, rfl, hr, h2⟩ := h
    have hr : cs = [.bool r.g, .slice r.a1 r.k1 r.c1, .slice r.a2 r.k2 r.c2] := hr
    subst hr
    have h0 := hx 0 (by simp)
    exact ⟨_, rest, rfl, ⟨r.g, r.a1, r.k1, r.c1, r.a2, r.k2, r.c2, rfl, h0⟩, rawL_rx h2 (by simpa using hl) (fun m hm => by
      have := hx (m + 1) (by simpa using hm)
      simpa using this)⟩
theorem Own.rawR {B : Nat} {φ : Phi} {w : World} {E : TypeId} {a : Option Addr} {cap N D : Nat} {xs : List (Rx N D)} (h : Own B φ w E a cap xs) : ∃ rs : List Raw3, rs.length = xs.length ∧ Own B φ w E a cap rs ∧ ∀ m, m < rs.length → FrX φ (rs.getD m raw0).v (xs.getD m ⟨0⟩).x N D := by
  obtain ⟨cells, h1, h2⟩ := h.row
  obtain ⟨rs, h3, h4, h5⟩ := repL_rawR h2
  exact ⟨rs, h4, ⟨⟨cells, by rw [h4]; exact h1, h3⟩, h.free⟩, h5⟩
theorem Own.rxs {B : Nat} {φ : Phi} {w : World} {E : TypeId} {a : Option Addr} {cap N D : Nat} {rs : List Raw3} {xs : List Rat} (h : Own B φ w E a cap rs) (hl : rs.length = xs.length) (hx : ∀ m, m < rs.length → FrX φ (rs.getD m raw0).v (xs.getD m 0) N D) : Own B φ w E a cap (xs.map (Rx.mk (N := N) (D := D))) := by
  obtain ⟨cells, h1, h2⟩ := h.row
  exact ⟨⟨cells, by rw [List.length_map, ← hl]; exact h1, rawL_rx h2 hl hx⟩, h.free⟩
theorem CloneR_any {N D : Nat} {w : World} {ac : Option Addr} {cc nc : Nat} {cs : List (Rx N D)} {φ : Phi} (hφ : Fz φ w) (sc : SlV φ ac cc cs) (hnc : Hid (cs.length = nc)) (hmc : nc ≤ 3000) :
    Calls Tryz.prog 59 #[.slice ac nc cc] w (fun e w' => ∃ a cap, e = .returned (.slice a nc cap) ∧ Inv w.heap.size w φ φ w' ∧ Own w.heap.size φ w' 46 a cap cs) := by
  cases ac with
  | none =>
    have h0 : cs = [] := List.eq_nil_of_length_eq_zero (by have := sc.capn; have := sc.nil rfl; omega)
    subst h0
    have hn0 : nc = 0 := hnc.out.symm
    subst hn0
    have hcc := sc.nil rfl
    subst hcc
    have he := fun w => Lib.run_eql_slice_nil (P := Tryz.prog) w 77 46 none 0 0 0 0 Tryz.underlying77
    go_enter Tryz.func59, Tryz.ntmps59
    go_wp2
    go_ret
    exact ⟨none, 0, rfl, Inv.start hφ, Own.nil _ _ _ _⟩
  | some ad =>
    have he := fun w => Lib.run_eql_slice_nil (P := Tryz.prog) w 77 46 (some ad) nc cc 0 0 Tryz.underlying77
    have hi0 := Inv.start hφ
    have hi2 := hi0.alloc (.cells #[] 46)
    have ho2 := Own.lit0 (α := Rx N D) (E := 46) hi0
    go_enter Tryz.func59, Tryz.ntmps59
    go_wp2_with (at_builtin; refine wpList_apps (α := Rx N D) rfl _ _ 77 rfl (slRx N D) hi2 _ 0 [] ho2 (some ad) cc cs sc rfl (by rw [hnc.out]; rfl) (by rw [hnc.out]; simp; omega) ?_; intro a2 cap2 w2 hi3 hown3 hgr)
    go_ret
    exact ⟨a2, cap2, by simp [hnc.out], hi3, hown3⟩
section
variable {E : TypeId} {w0 W w' : World} {φ0 φ φ' : Phi} {o : Option Nat} {x M : Nat}
/-- What an exact number's call leaves, in the reference. -/
def FrN (E : TypeId) (w0 : World) (φ0 φ : Phi) (o : Option Nat) (y : Rat) (N D : Nat) (en : Ending) (w' : World) : Prop :=
  ∃ (g : Bool) (a1 : Option Addr) (k1 c1 : Nat) (a2 : Option Addr) (k2 c2 : Nat) (φ' : Phi), en = .returned (.agg #[.bool g, .slice a1 k1 c1, .slice a2 k2 c2]) ∧ Hid (φ.le φ') ∧ Hid (FrX φ' (.agg #[.bool g, .slice a1 k1 c1, .slice a2 k2 c2]) y N D) ∧ Hid (NbS E w0 φ0 φ' o w')
theorem FrN.of {y : Rat} {N D N' D' : Nat} (hN : N ≤ N') (hDD : D ≤ D') (h : Hid (NbS E w0 φ0 φ o W)) {en : Ending} (hp : FrXP y N D φ W en w') : FrN E w0 φ0 φ o y N' D' en w' := by
  obtain ⟨v, φ', rfl, hi, hv⟩ := hp
  have hv := hv.le hN hDD
  obtain ⟨g, n, d, k1, k2, a1, c1, a2, c2, rfl, _⟩ := hv.open
  exact ⟨g, a1, k1, c1, a2, k2, c2, φ', rfl, Lib.hid hi.le, Lib.hid hv, Lib.hid (h.out.call hi)⟩
theorem RWhole_N {q : Nat} {n : Nat} (hq : Hid (q ≤ n ∧ n ≤ 3000)) (h : Hid (NbS E w0 φ0 φ o W)) :
    Calls Tryz.prog 17 #[.int .i64 (q : Int)] W (FrN E w0 φ0 φ o (((q : Nat) : Int) : Rat) n 1) :=
  (RWhole_any (n := (q : Int)) (by omega) (by have := hq.out; omega) h.out.inv.fz).mono (fun en w' hp => FrN.of (by have := hq.out; omega) (Nat.le_refl _) h hp)
theorem RFracOf_N {s t : ByteArray} (hr : Hid (RatOk s t)) {y : Rat} (hx : Hid (ratX s t = y)) {N D : Nat} (hB : Hid (dV (bodyB s).data.toList ≤ N ∧ dV t.data.toList ≤ D)) (h : Hid (NbS E w0 φ0 φ o W)) :
    Calls Tryz.prog 19 #[.agg #[.string s, .string t]] W (FrN E w0 φ0 φ o y N D) :=
  (RFracOf_any hr.out h.out.inv.fz).mono (fun en w' hp => by rw [hx.out] at hp; exact FrN.of hB.out.1 hB.out.2 h hp)
theorem RTimes_N (hD : Hid (RdivOk M)) (hM : LenB M) {v1 v2 : Value} {x y : Rat} {N1 D1 N2 D2 : Nat} {ψ : Phi} (h1 : Hid (FrX ψ v1 x N1 D1)) (hl : Hid (ψ.le φ)) {ψ2 : Phi} (h2 : Hid (FrX ψ2 v2 y N2 D2)) (hl2 : Hid (ψ2.le φ)) (hB : Hid (N1 * N2 ≤ M ∧ D1 * D2 ≤ M ∧ N1 ≤ M ∧ N2 ≤ M)) {N D : Nat} (hN : Hid (N1 * N2 ≤ N ∧ D1 * D2 ≤ D)) (h : Hid (NbS E w0 φ0 φ o W)) :
    Calls Tryz.prog 23 #[v1, v2] W (FrN E w0 φ0 φ o (x * y) N D) :=
  (RTimes_any hD hM h.out.inv.fz (h1.out.mono hl.out) (h2.out.mono hl2.out) hB.out.1 hB.out.2.1 hB.out.2.2.1 hB.out.2.2.2).mono (fun en w' hp => FrN.of hN.out.1 hN.out.2 h hp)
theorem ROver_N (hD : Hid (RdivOk M)) (hM : LenB M) {v1 v2 : Value} {x y : Rat} {N1 D1 N2 D2 : Nat} {ψ : Phi} (h1 : Hid (FrX ψ v1 x N1 D1)) (hl : Hid (ψ.le φ)) {ψ2 : Phi} (h2 : Hid (FrX ψ2 v2 y N2 D2)) (hl2 : Hid (ψ2.le φ)) (hy : Hid (y ≠ 0)) (hB : Hid (N1 * D2 ≤ M ∧ D1 * N2 ≤ M ∧ D2 ≤ M)) {N D : Nat} (hN : Hid (N1 * D2 ≤ N ∧ D1 * N2 ≤ D)) (h : Hid (NbS E w0 φ0 φ o W)) :
    Calls Tryz.prog 33 #[v1, v2] W (FrN E w0 φ0 φ o (x / y) N D) :=
  (ROver_any hD hM h.out.inv.fz (h1.out.mono hl.out) (h2.out.mono hl2.out) hy.out hB.out.1 hB.out.2.1 hB.out.2.2).mono (fun en w' hp => FrN.of hN.out.1 hN.out.2 h hp)
end
end Go.Proofs.YtdlnhmcgnpjooaaGreatDoor

namespace Go.Proofs.YtdlnhmcgnpjooaaGreatDoor
open Go.RowKit
set_option linter.unusedVariables false
set_option linter.unusedSimpArgs false
theorem cntN_yes {c : List Bool} {k : Nat} (h : c.getD k false = true) : cntN c (k + 1) = cntN c k + 1 := by
  show (if c.getD k false then _ else _) = _
  rw [if_pos h]
theorem cntN_no {c : List Bool} {k : Nat} (h : c.getD k false = false) : cntN c (k + 1) = cntN c k := by
  show (if c.getD k false then _ else _) = _
  rw [h]; rfl
theorem rxw_range {l : List Psn} {n : Nat} (hn : l.length = n) : l.map rxW = ((List.range n).map (wgtQ l)).map (Rx.mk (N := 1000000000000) (D := 1000000000000)) := by
  subst hn
  apply List.ext_getElem
  · simp
  · intro i h1 h2
    simp at h1
    simp [wgtQ, h1]
theorem RPlus_Q {T E : TypeId} {w0 W : World} {φ0 φ : Phi} {b : Nat} {cs : Array Value} {g cg : Nat} {rs : List Raw3} {e ce : Nat} {c : List Bool} {M : Nat} (hD : Hid (RdivOk M)) (hM : LenB M) {v1 v2 : Value} {x y : Rat} {N1 D1 N2 D2 : Nat} (h1 : Hid (FrX φ v1 x N1 D1)) (h2 : Hid (FrX φ v2 y N2 D2)) (hB : Hid (N1 * D2 + N2 * D1 ≤ M ∧ D1 * D2 ≤ M)) {N D : Nat} (hN : Hid (N1 * D2 + N2 * D1 ≤ N ∧ D1 * D2 ≤ D)) (hS : Hid (TqS T E w0 φ0 φ b cs g cg rs e ce c W)) :
    Calls Tryz.prog 18 #[v1, v2] W (fun en w' => ∃ (g9 : Bool) (a1 : Option Addr) (k1 c1 : Nat) (a2 : Option Addr) (k2 c2 : Nat) (φ' : Phi), en = .returned (.agg #[.bool g9, .slice a1 k1 c1, .slice a2 k2 c2]) ∧ Hid (φ.le φ') ∧ Hid (FrX φ' (.agg #[.bool g9, .slice a1 k1 c1, .slice a2 k2 c2]) (x + y) N D) ∧ Hid (TqS T E w0 φ0 φ' b cs g cg rs e ce c w')) := by
  refine (RPlus_any hD hM hS.out.r.inv.fz h1.out h2.out hB.out.1 hB.out.2).mono ?_
  rintro en w' ⟨v, φ', rfl, hi, hv⟩
  have hv := hv.le hN.out.1 hN.out.2
  obtain ⟨g9, n, d, k1, k2, a1, c1, a2, c2, rfl, _⟩ := hv.open
  exact ⟨g9, a1, k1, c1, a2, k2, c2, φ', rfl, Lib.hid hi.le, Lib.hid hv, Lib.hid (hS.out.call hi)⟩
set_option maxRecDepth 100000 in
set_option maxHeartbeats 8000000 in
theorem RTrim_any {M K1 K2 KL K3 : Nat} (hD : Hid (RdivOk M)) (hM : LenB M) (hM2 : p10 2000 ≤ M) {n : Nat} (hB : Hid (n ≤ 3000 → TrB M 1000000000000 K1 K2 KL K3 n)) {a : Option Addr} {cap : Nat} {l : List Psn} {w : World} {φ : Phi} (hφ : Fz φ w) (hp : PowP φ) (sl : SlV φ a cap l) (hn : Hid (l.length = n)) (hsz : Hid (∀ p ∈ l, PsnG p)) {s t : ByteArray} (hs : s.size ≤ 9223372036854775807) (ht : t.size ≤ 9223372036854775807) {R : List Rti × Int × Int} (hR : Hid (trmR l s t = R)) :
    Calls Tryz.prog 25 #[.slice a n cap, .agg #[.string s, .string t]] w (TrPost R φ w) := by
  have HM2 := Lib.hid hM2
  have hnl : n ≤ 9223372036854775807 := by have := sl.capn; have := sl.capm; rw [hn.out] at *; unfold maxLen at *; omega
  obtain ⟨φb, lb, ib, eb⟩ := (Inv.start hφ).frz (.cells #[.string s, .string t] 29)
  have HI := Lib.hid ib
  have EB := Lib.hid eb
  have HSL := Lib.hid (sl.mono lb)
  have HP := Lib.hid (hp.mono lb)
  obtain ⟨f, hf⟩ : ∃ f, Hid (pplF l = f) := ⟨_, Lib.hid rfl⟩
  clear lb ib eb hφ hM2 sl hp
  by_cases hf0 : f = 0
  case neg =>
    have hE : Hid (([], 0, f) = R) := Lib.hid (by rw [← hR.out]; unfold trmR; rw [if_pos (by rw [hf.out]; exact hf0), hf.out])
    have h0i : (f == 0) = false := by simp [hf0]
    have h0j : (f != 0) = true := by simp [hf0]
    clear hf0 hR
    go_enter Tryz.func25, Tryz.ntmps25
    go_upto_region 1 with fail
    generalize w.alloc (.cells #[.string s, .string t] 29) = wx at *
    obtain ⟨b3, hb3⟩ : ∃ b, w.heap.size = b := ⟨_, rfl⟩
    rw [hb3] at EB
    rw [hb3]
    clear hb3
    go_upto_region 3 with (first
      | (go_at_call 32; (with_reducible refine (ShortRatio_any hM HM2.out hs ht hsf I1.out.fz HP.out).mono ?_); rintro en w2 ⟨rfl, hb2⟩; have I2 := Lib.hid (I1.out.callB hb2); have u0 : w2.cell? ⟨b3, 0, none⟩ = some (.string s) := box_cell EB.out φb.le_refl I2.out.fz 0; have u1 : w2.cell? ⟨b3, 1, none⟩ = some (.string t) := box_cell EB.out φb.le_refl I2.out.fz 1; clear hb2)
      | (go_at_call 41; (with_reducible refine (checkAlone_any hD hM HM2.out HI.out.fz HP.out HSL.out hn hsz hf).mono ?_); rintro en w1 ⟨rfl, hb1⟩; have I1 := Lib.hid (HI.out.callB hb1); have t0 : w1.cell? ⟨b3, 0, none⟩ = some (.string s) := box_cell EB.out φb.le_refl I1.out.fz 0; have t1 : w1.cell? ⟨b3, 1, none⟩ = some (.string t) := box_cell EB.out φb.le_refl I1.out.fz 1; clear hb1))
    go_wp2
    go_ret3
    exact TrPost.err hE.out I1.out
  case pos =>
    subst hf0
    obtain ⟨fs, hsf⟩ : ∃ f, Hid (shoF s t = f) := ⟨_, Lib.hid rfl⟩
    by_cases hs0 : fs = 0
    case neg =>
      have hE : Hid (([], 0, fs) = R) := Lib.hid (by rw [← hR.out]; unfold trmR; rw [if_neg (by rw [hf.out]; decide), if_pos (by rw [hsf.out]; exact hs0), hsf.out])
      have h0i : (fs == 0) = false := by simp [hs0]
      have h0j : (fs != 0) = true := by simp [hs0]
      clear hs0 hR
      go_enter Tryz.func25, Tryz.ntmps25
      go_upto_region 1 with fail
      generalize w.alloc (.cells #[.string s, .string t] 29) = wx at *
      obtain ⟨b3, hb3⟩ : ∃ b, w.heap.size = b := ⟨_, rfl⟩
      rw [hb3] at EB
      rw [hb3]
      clear hb3
      go_upto_region 6 with (first
        | (go_at_call 32; (with_reducible refine (ShortRatio_any hM HM2.out hs ht hsf I1.out.fz HP.out).mono ?_); rintro en w2 ⟨rfl, hb2⟩; have I2 := Lib.hid (I1.out.callB hb2); have u0 : w2.cell? ⟨b3, 0, none⟩ = some (.string s) := box_cell EB.out φb.le_refl I2.out.fz 0; have u1 : w2.cell? ⟨b3, 1, none⟩ = some (.string t) := box_cell EB.out φb.le_refl I2.out.fz 1; clear hb2)
        | (go_at_call 41; (with_reducible refine (checkAlone_any hD hM HM2.out HI.out.fz HP.out HSL.out hn hsz hf).mono ?_); rintro en w1 ⟨rfl, hb1⟩; have I1 := Lib.hid (HI.out.callB hb1); have t0 : w1.cell? ⟨b3, 0, none⟩ = some (.string s) := box_cell EB.out φb.le_refl I1.out.fz 0; have t1 : w1.cell? ⟨b3, 1, none⟩ = some (.string t) := box_cell EB.out φb.le_refl I1.out.fz 1; clear hb1))
      go_wp2
      go_ret3
      exact TrPost.err hE.out I2.out
    case pos =>
      subst hs0
      have hrk := Lib.hid (ratF_ok (shoF_ok hsf.out).1)
      have HSH := Lib.hid (sho_lt hsf.out)
      obtain ⟨mq, hmq⟩ : ∃ q, Hid (ratX s t = q) := ⟨_, Lib.hid rfl⟩
      obtain ⟨q, hq⟩ : ∃ q, Hid (cmpQ mq 1 = q) := ⟨_, Lib.hid rfl⟩
      have HM4 : Hid (1000000000000 * 1 + 1 * 1000000000000 ≤ M ∧ 1000000000000 * 1 ≤ M) := Lib.hid (by
        have h1 : p10 13 ≤ M := Nat.le_trans (p10_mono (by decide)) HM2.out
        have h2 : p10 13 = 10000000000000 := by decide
        omega)
      by_cases hlt1 : mq < 1
      case pos =>
        have hE : Hid (([], 0, 1) = R) := Lib.hid (by rw [← hR.out]; unfold trmR; rw [if_neg (by rw [hf.out]; decide), if_neg (by rw [hsf.out]; decide), hmq.out, if_pos hlt1])
        have hq0 : q < 0 := by rw [← hq.out]; exact cmpQ_neg.2 hlt1
        clear hlt1 hR
        go_enter Tryz.func25, Tryz.ntmps25
        go_upto_region 1 with fail
        generalize w.alloc (.cells #[.string s, .string t] 29) = wx at *
        obtain ⟨b3, hb3⟩ : ∃ b, w.heap.size = b := ⟨_, rfl⟩
        rw [hb3] at EB
        rw [hb3]
        clear hb3
        go_upto_region 7 with (first
          | (go_at_call 32; (with_reducible refine (ShortRatio_any hM HM2.out hs ht hsf I1.out.fz HP.out).mono ?_); rintro en w2 ⟨rfl, hb2⟩; have I2 := Lib.hid (I1.out.callB hb2); have u0 : w2.cell? ⟨b3, 0, none⟩ = some (.string s) := box_cell EB.out φb.le_refl I2.out.fz 0; have u1 : w2.cell? ⟨b3, 1, none⟩ = some (.string t) := box_cell EB.out φb.le_refl I2.out.fz 1; clear hb2)
          | (go_at_call 41; (with_reducible refine (checkAlone_any hD hM HM2.out HI.out.fz HP.out HSL.out hn hsz hf).mono ?_); rintro en w1 ⟨rfl, hb1⟩; have I1 := Lib.hid (HI.out.callB hb1); have t0 : w1.cell? ⟨b3, 0, none⟩ = some (.string s) := box_cell EB.out φb.le_refl I1.out.fz 0; have t1 : w1.cell? ⟨b3, 1, none⟩ = some (.string t) := box_cell EB.out φb.le_refl I1.out.fz 1; clear hb1))
        go_upto_region 8 with (first
          | (go_at_call 24; (with_reducible refine (ROrder_any hD hM I4.out.fz V34.out V4.out HM4.out.1 HM4.out.2 hq).mono ?_); rintro en w5 ⟨rfl, hb5⟩; have I5 := Lib.hid (I4.out.callB hb5); clear hb5)
          | (go_at_call 17; (with_reducible refine (RWhole_any (n := 1) (by decide) (by decide) I3.out.fz).mono ?_); rintro en w4 ⟨v4, φ4, rfl, hi4, hv4⟩; have hv4 := hv4.le (Nat.le_refl 1) (Nat.le_refl 1); have I4 := Lib.hid (I3.out.call hi4); have L4 := Lib.hid (L3.out.trans hi4.le); have V34 := Lib.hid (V3.out.mono hi4.le); have V4 := Lib.hid hv4; clear hi4 hv4)
          | (go_at_call 19; (with_reducible refine (RFracOf_any hrk.out I2.out.fz).mono ?_); rintro en w3 ⟨v3, φ3, rfl, hi3, hv3⟩; rw [hmq.out] at hv3; have hv3 := hv3.le HSH.out.1 HSH.out.2; have I3 := Lib.hid (I2.out.call hi3); have L3 := Lib.hid hi3.le; have V3 := Lib.hid hv3; clear hi3 hv3))
        go_wp2
        go_ret3
        exact TrPost.err hE.out I5.out
      case neg =>
        have hq0 : ¬ q < 0 := by rw [← hq.out]; exact fun h => hlt1 (cmpQ_neg.1 h)
        by_cases hn0 : n = 0
        case pos =>
          subst hn0
          have hE : Hid (([], 0, 0) = R) := Lib.hid (by rw [← hR.out]; unfold trmR; rw [if_neg (by rw [hf.out]; decide), if_neg (by rw [hsf.out]; decide), hmq.out, if_neg hlt1, if_pos hn.out])
          clear hlt1 hR
          go_enter Tryz.func25, Tryz.ntmps25
          go_upto_region 1 with fail
          generalize w.alloc (.cells #[.string s, .string t] 29) = wx at *
          obtain ⟨b3, hb3⟩ : ∃ b, w.heap.size = b := ⟨_, rfl⟩
          rw [hb3] at EB
          rw [hb3]
          clear hb3
          go_upto_region 7 with (first
            | (go_at_call 32; (with_reducible refine (ShortRatio_any hM HM2.out hs ht hsf I1.out.fz HP.out).mono ?_); rintro en w2 ⟨rfl, hb2⟩; have I2 := Lib.hid (I1.out.callB hb2); have u0 : w2.cell? ⟨b3, 0, none⟩ = some (.string s) := box_cell EB.out φb.le_refl I2.out.fz 0; have u1 : w2.cell? ⟨b3, 1, none⟩ = some (.string t) := box_cell EB.out φb.le_refl I2.out.fz 1; clear hb2)
            | (go_at_call 41; (with_reducible refine (checkAlone_any hD hM HM2.out HI.out.fz HP.out HSL.out hn hsz hf).mono ?_); rintro en w1 ⟨rfl, hb1⟩; have I1 := Lib.hid (HI.out.callB hb1); have t0 : w1.cell? ⟨b3, 0, none⟩ = some (.string s) := box_cell EB.out φb.le_refl I1.out.fz 0; have t1 : w1.cell? ⟨b3, 1, none⟩ = some (.string t) := box_cell EB.out φb.le_refl I1.out.fz 1; clear hb1))
          go_upto_region 10 with (first
            | (go_at_call 24; (with_reducible refine (ROrder_any hD hM I4.out.fz V34.out V4.out HM4.out.1 HM4.out.2 hq).mono ?_); rintro en w5 ⟨rfl, hb5⟩; have I5 := Lib.hid (I4.out.callB hb5); clear hb5)
            | (go_at_call 17; (with_reducible refine (RWhole_any (n := 1) (by decide) (by decide) I3.out.fz).mono ?_); rintro en w4 ⟨v4, φ4, rfl, hi4, hv4⟩; have hv4 := hv4.le (Nat.le_refl 1) (Nat.le_refl 1); have I4 := Lib.hid (I3.out.call hi4); have L4 := Lib.hid (L3.out.trans hi4.le); have V34 := Lib.hid (V3.out.mono hi4.le); have V4 := Lib.hid hv4; clear hi4 hv4)
            | (go_at_call 19; (with_reducible refine (RFracOf_any hrk.out I2.out.fz).mono ?_); rintro en w3 ⟨v3, φ3, rfl, hi3, hv3⟩; rw [hmq.out] at hv3; have hv3 := hv3.le HSH.out.1 HSH.out.2; have I3 := Lib.hid (I2.out.call hi3); have L3 := Lib.hid hi3.le; have V3 := Lib.hid hv3; clear hi3 hv3))
          go_wp2
          go_ret3
          exact TrPost.err hE.out I5.out
        case neg =>
          have hpos : Hid (0 < n) := Lib.hid (by omega)
          have h0i : ((n : Int) == 0) = false := by simp [hn0]
          have hm1 : Hid (1 ≤ mq) := Lib.hid (Rat.not_lt.1 hlt1)
          obtain ⟨hn3', hall⟩ := pplF_ok hf.out
          rw [hn.out] at hn3' hall
          have hn3 := hn3'
          clear hn3'
          have hok : Hid (∀ p ∈ l, shoF p.1.1 p.1.2 = 0) := Lib.hid (fun p hpm => by
            obtain ⟨i, hi, e⟩ := List.getElem_of_mem hpm
            have := hall i (by rw [← hn.out]; exact hi)
            rw [getD_elem0 _ _ _ hi, e] at this
            exact (psnF_ok this).1)
          have hwp : Hid (∀ j, j < n → 0 < wgtQ l j) := Lib.hid (fun j hj => (psnF_ok (hall j hj)).2)
          obtain ⟨xs, hxs⟩ : ∃ xs, Hid (xs = (List.range n).map (wgtQ l)) := ⟨_, Lib.hid rfl⟩
          have hxn : Hid (xs.length = n) := Lib.hid (by rw [hxs.out]; simp)
          have hxw : Hid (∀ k, k < n → xs.getD k 0 = wgtQ l k) := Lib.hid (fun k hk => by rw [hxs.out]; exact range_getD _ hk)
          have hxS : Hid (sumQ xs = totQ l) := Lib.hid (by rw [hxs.out, sumQ_range]; unfold totQ; rw [hn.out])
          have hW := rxw_range hn.out
          rw [← hxs.out] at hW
          have HCo := Lib.hid (fun (ψ : Phi) W (hf9 : Fz ψ W) (hl : φb.le ψ) => Rweights_any hf9 (HSL.out.mono hl) hn hn3 hok)
          rw [hW] at HCo
          have HB := Lib.hid (hB.out hn3)
          have hRR : Hid ((if (shtR ((List.range n).map (trmX l mq (trC l mq)))).2 ≠ 0 then ([], 0, (shtR ((List.range n).map (trmX l mq (trC l mq)))).2) else ((shtR ((List.range n).map (trmX l mq (trC l mq)))).1, (cntN (trC l mq) n : Int), 0)) = R) := Lib.hid (by
            have e : trmR l s t = (if (shtR ((List.range n).map (trmX l mq (trC l mq)))).2 ≠ 0 then ([], 0, (shtR ((List.range n).map (trmX l mq (trC l mq)))).2) else ((shtR ((List.range n).map (trmX l mq (trC l mq)))).1, (cntN (trC l mq) n : Int), 0)) := by
              unfold trmR
              rw [hf.out, hsf.out, hmq.out, hn.out, if_neg (show ¬ ((0 : Int) ≠ 0) by decide), if_neg (show ¬ ((0 : Int) ≠ 0) by decide), if_neg hlt1, if_neg hn0]
            rw [← hR.out, e])
          clear hW hok hB hall hlt1 hn0 hR
          obtain ⟨N, hN⟩ : ∃ N, N = 1000000000000 := ⟨_, rfl⟩
          rw [← hN] at HCo HB HSH HM4
          clear hN
          have hnm : Hid ((xs.map (Rx.mk (N := N) (D := N))).length = n) := Lib.hid (by rw [List.length_map, hxn.out])
          have em := makeB_eq n (by omega)
          have hM1 : Hid (n * N * N ^ n ≤ M ∧ N ^ n ≤ M) := Lib.hid ⟨Nat.le_trans HB.out.s1 HB.out.m6, Nat.le_trans HB.out.s2 HB.out.m6⟩
          have hM3 : Hid (N ≤ M) := Lib.hid (Nat.le_trans HB.out.n3 HB.out.m3)
          have hN1 : 1 ≤ N := HB.out.n1
          have hbd : Hid (∀ k, k < n → (k * N * N ^ k * N + N * N ^ k ≤ M ∧ N ^ k * N ≤ M) ∧ (k * N * N ^ k * N + N * N ^ k ≤ (k + 1) * N * N ^ (k + 1) ∧ N ^ k * N ≤ N ^ (k + 1))) := Lib.hid (fun k hk =>
            ⟨⟨Nat.le_trans (sumB_step hN1) (Nat.le_trans (sumB_mono hN1 hk) hM1.out.1), by rw [← Nat.pow_succ]; exact Nat.le_trans (powB_mono hN1 hk) hM1.out.2⟩, sumB_step hN1, Nat.le_of_eq (Nat.pow_succ ..).symm⟩)
          have hmo : Hid (∀ k, k < n → k * N * N ^ k ≤ (k + 1) * N * N ^ (k + 1) ∧ N ^ k ≤ N ^ (k + 1)) := Lib.hid (fun k hk => ⟨sumB_mono hN1 (Nat.le_succ k), powB_mono hN1 (Nat.le_succ k)⟩)
          go_enter Tryz.func25, Tryz.ntmps25
          go_upto_region 1 with fail
          generalize w.alloc (.cells #[.string s, .string t] 29) = wx at *
          obtain ⟨b3, hb3⟩ : ∃ b, w.heap.size = b := ⟨_, rfl⟩
          rw [hb3] at EB
          rw [hb3]
          clear hb3
          go_upto_region 7 with (first
            | (go_at_call 32; (with_reducible refine (ShortRatio_any hM HM2.out hs ht hsf I1.out.fz HP.out).mono ?_); rintro en w2 ⟨rfl, hb2⟩; have I2 := Lib.hid (I1.out.callB hb2); have u0 : w2.cell? ⟨b3, 0, none⟩ = some (.string s) := box_cell EB.out φb.le_refl I2.out.fz 0; have u1 : w2.cell? ⟨b3, 1, none⟩ = some (.string t) := box_cell EB.out φb.le_refl I2.out.fz 1; clear hb2)
            | (go_at_call 41; (with_reducible refine (checkAlone_any hD hM HM2.out HI.out.fz HP.out HSL.out hn hsz hf).mono ?_); rintro en w1 ⟨rfl, hb1⟩; have I1 := Lib.hid (HI.out.callB hb1); have t0 : w1.cell? ⟨b3, 0, none⟩ = some (.string s) := box_cell EB.out φb.le_refl I1.out.fz 0; have t1 : w1.cell? ⟨b3, 1, none⟩ = some (.string t) := box_cell EB.out φb.le_refl I1.out.fz 1; clear hb1))
          go_upto_region 11 with (first
            | (go_at_call 24; (with_reducible refine (ROrder_any hD hM I4.out.fz V34.out V4.out HM4.out.1 HM4.out.2 hq).mono ?_); rintro en w5 ⟨rfl, hb5⟩; have I5 := Lib.hid (I4.out.callB hb5); clear hb5)
            | (go_at_call 17; (with_reducible refine (RWhole_any (n := 1) (by decide) (by decide) I3.out.fz).mono ?_); rintro en w4 ⟨v4, φ4, rfl, hi4, hv4⟩; have hv4 := hv4.le (Nat.le_refl 1) (Nat.le_refl 1); have I4 := Lib.hid (I3.out.call hi4); have L4 := Lib.hid (L3.out.trans hi4.le); have V34 := Lib.hid (V3.out.mono hi4.le); have V4 := Lib.hid hv4; clear hi4 hv4)
            | (go_at_call 19; (with_reducible refine (RFracOf_any hrk.out I2.out.fz).mono ?_); rintro en w3 ⟨v3, φ3, rfl, hi3, hv3⟩; rw [hmq.out] at hv3; have hv3 := hv3.le HSH.out.1 HSH.out.2; have I3 := Lib.hid (I2.out.call hi3); have L3 := Lib.hid hi3.le; have V3 := Lib.hid hv3; clear hi3 hv3))
          clear V34 V4 V3 HM4 hq hq0 h0i HI
          have HP4 := Lib.hid (HP.out.mono L4.out)
          go_upto_region 13 with (first
            | (go_at_call 43; (with_reducible refine (Rsum_any hD hM hN1 hM1.out.1 hM1.out.2 I6.out.fz S6.out hxn hxS).mono ?_); rintro en w7 ⟨v7, φ7, rfl, hi7, hv7⟩; have hv7 := hv7.le HB.out.s1 HB.out.s2; obtain ⟨g0, n0, m0, p0, p1, a0, c0, a0', c0', rfl, _⟩ := hv7.open; have I7 := Lib.hid (I6.out.call hi7); have L7 := Lib.hid (L6.out.trans hi7.le); have S7 := Lib.hid (S6.out.mono hi7.le); have V7 := Lib.hid hv7; clear hi7 hv7)
            | (go_at_call 42; (with_reducible refine (HCo.out _ _ I5.out.fz L4.out).mono ?_); rintro en w6 ⟨aw, cw, φ6, rfl, hi6, s6⟩; rw [hnm.out]; have I6 := Lib.hid (I5.out.call hi6); have L6 := Lib.hid (L4.out.trans hi6.le); have S6 := Lib.hid s6; clear hi6 s6))
          obtain ⟨φa, la, ia, ea⟩ := (Inv.start I7.out.fz).frz (.cells #[.bool g0, .slice a0 p0 c0, .slice a0' p1 c0'] 46)
          have Ia := Lib.hid (I7.out.call ia)
          have EA := Lib.hid ea
          have La := Lib.hid (L7.out.trans la)
          have Sa := Lib.hid (S7.out.mono la)
          have Va := Lib.hid (V7.out.mono la)
          have EBa := Lib.hid (La.out _ _ EB.out)
          have HPa := Lib.hid (HP.out.mono La.out)
          clear la ia ea I1 I2 I3 I4 I5 I6 I7 L3 L4 L6 L7 S6 S7 V7 HP4 HP EB HCo t0 t1 u0 u1
          generalize w7.alloc (.cells #[.bool g0, .slice a0 p0 c0, .slice a0' p1 c0'] 46) = wa at *
          generalize w7.heap.size = bt at *
          have NB0 : Hid (NbS 46 w φ φa none wa) := Lib.hid ⟨Ia.out, fun x hx => by cases hx⟩
          have NBd := NbS.drew NB0
          have NBa := NbS.drew (NbS.al NB0)
          have hcf := Lib.hid (fun (ψ : Phi) (o : Option Nat) (W : World) (hl : Hid (φa.le ψ)) (h : Hid (NbS 46 w φ ψ o W)) => (⟨box_cell EBa.out hl.out h.out.inv.fz 0, box_cell EBa.out hl.out h.out.inv.fz 1, box_cell EA.out hl.out h.out.inv.fz 0, box_cell EA.out hl.out h.out.inv.fz 1, box_cell EA.out hl.out h.out.inv.fz 2⟩ : W.cell? ⟨b3, 0, none⟩ = some (.string s) ∧ W.cell? ⟨b3, 1, none⟩ = some (.string t) ∧ W.cell? ⟨bt, 0, none⟩ = some (.bool g0) ∧ W.cell? ⟨bt, 1, none⟩ = some (.slice a0 p0 c0) ∧ W.cell? ⟨bt, 2, none⟩ = some (.slice a0' p1 c0')))
          have hnx : Hid (∀ ψ x W, Hid (φa.le ψ) → Hid (NbS 46 w φ ψ (some x) W) → x ≠ b3 ∧ x ≠ bt) := Lib.hid (fun ψ x W hl h => by
            have h1 := (h.out.o x rfl).f
            exact ⟨fun e => by rw [e, hl.out _ _ EBa.out] at h1; exact absurd h1 (by simp), fun e => by rw [e, hl.out _ _ EA.out] at h1; exact absurd h1 (by simp)⟩)
          have LR := Lib.hid φa.le_refl
          obtain ⟨y0, y1, y2, y3, y4⟩ := hcf.out φa none wa LR NB0
          obtain ⟨x0, x1, x2, x3, x4⟩ := hcf.out φa none wa.drew LR NBd
          have hnn : Hid (n ≤ n ∧ n ≤ 3000) := Lib.hid ⟨Nat.le_refl _, hn3⟩
          have hT1 : Hid (N * K1 ≤ M ∧ N * K1 ≤ M ∧ N ≤ M ∧ K1 ≤ M) := Lib.hid ⟨HB.out.m10, HB.out.m10, hM3.out, HB.out.m6⟩
          have hT2 : Hid (N * K1 ≤ N * K1 ∧ N * K1 ≤ N * K1) := Lib.hid ⟨Nat.le_refl _, Nat.le_refl _⟩
          have hO1 : Hid (N * K1 * 1 ≤ M ∧ N * K1 * n ≤ M ∧ 1 ≤ M) := Lib.hid ⟨Nat.le_trans HB.out.b1 (Nat.le_trans HB.out.k3 HB.out.m3), Nat.le_trans HB.out.b2 (Nat.le_trans HB.out.k3 HB.out.m3), Nat.le_trans HB.out.o1 HB.out.m6⟩
          have hO2 : Hid (N * K1 * 1 ≤ K2 ∧ N * K1 * n ≤ K2) := Lib.hid ⟨HB.out.b1, HB.out.b2⟩
          have hnq : Hid ((((n : Nat) : Int) : Rat) ≠ 0) := Lib.hid (by have := hpos.out; simp; omega)
          have hbq : Hid (mq * totQ l / (((n : Nat) : Int) : Rat) = bndQ l mq) := Lib.hid (by unfold bndQ; rw [hn.out])
          apply wp_region_cutV (fun (i : Nat × Value × Value × Value × Bool × Option Addr × Nat × Nat × Option Addr × Nat × Nat) => [(47, .agg #[.string s, .string t]), (48, i.2.1), (49, .agg #[.bool g0, .slice a0 p0 c0, .slice a0' p1 c0']), (50, i.2.2.1), (51, .slice a n cap), (52, .int .i64 (n : Int)), (53, i.2.2.2.1), (54, .agg #[.bool i.2.2.2.2.1, .slice i.2.2.2.2.2.1 i.2.2.2.2.2.2.1 i.2.2.2.2.2.2.2.1, .slice i.2.2.2.2.2.2.2.2.1 i.2.2.2.2.2.2.2.2.2.1 i.2.2.2.2.2.2.2.2.2.2]), (11, .pointer (some ⟨i.1, 0, none⟩))])
            (fun i W => Hid (∃ φ3, φa.le φ3 ∧ RsSt w φ φ3 i.1 #[.bool i.2.2.2.2.1, .slice i.2.2.2.2.2.1 i.2.2.2.2.2.2.1 i.2.2.2.2.2.2.2.1, .slice i.2.2.2.2.2.2.2.2.1 i.2.2.2.2.2.2.2.2.2.1 i.2.2.2.2.2.2.2.2.2.2] 46 W ∧ FrX φ3 (.agg #[.bool i.2.2.2.2.1, .slice i.2.2.2.2.2.1 i.2.2.2.2.2.2.1 i.2.2.2.2.2.2.2.1, .slice i.2.2.2.2.2.2.2.2.1 i.2.2.2.2.2.2.2.2.2.1 i.2.2.2.2.2.2.2.2.2.2]) (bndQ l mq) K2 K2))
          case h1 =>
            intro KK hKK
            go_region_held3 (fun w' => w'.cell? ⟨b3, 0, none⟩ = some (.string s) ∧ w'.cell? ⟨b3, 1, none⟩ = some (.string t) ∧ w'.cell? ⟨bt, 0, none⟩ = some (.bool g0) ∧ w'.cell? ⟨bt, 1, none⟩ = some (.slice a0 p0 c0) ∧ w'.cell? ⟨bt, 2, none⟩ = some (.slice a0' p1 c0')) (first | done | with_reducible exact ⟨x0, x1, x2, x3, x4⟩ | with_reducible exact ⟨by assumption, by assumption, by assumption, by assumption, by assumption⟩ | with_reducible exact ⟨keepAP (by with_reducible assumption), keepAP (by with_reducible assumption), keepAP (by with_reducible assumption), keepAP (by with_reducible assumption), keepAP (by with_reducible assumption)⟩ | with_reducible exact ⟨keepDw (keepAP (by with_reducible assumption)), keepDw (keepAP (by with_reducible assumption)), keepDw (keepAP (by with_reducible assumption)), keepDw (keepAP (by with_reducible assumption)), keepDw (keepAP (by with_reducible assumption))⟩ | with_reducible exact ⟨keep3 (by with_reducible assumption) nxD.1, keep3 (by with_reducible assumption) nxD.1, keep3 (by with_reducible assumption) nxD.2, keep3 (by with_reducible assumption) nxD.2, keep3 (by with_reducible assumption) nxD.2⟩ | fail) (first
              | ((first | (with_reducible refine (ROver_N hD hM VB LC VC (Lib.hid φC.le_refl) hnq hO1 hO2 SC).mono ?_) | (with_reducible refine (ROver_N hD hM VB LC VC (Lib.hid φC.le_refl) hnq hO1 hO2 (NbS.al SC)).mono ?_)); rintro en wD ⟨gD, aD, kD, cD, aD', kD', cD', φD, rfl, LD, VD, SD⟩; have LAD := Lib.hid (LAC.out.trans LD.out); (try (have vv := NbS.facts SD; have nxD := hnx.out _ _ _ LAD SD; obtain ⟨v30, v31, v32, v33, v34, v35⟩ := vv)); obtain ⟨r0, r1, r2, r3, r4⟩ := hcf.out φD _ wD LAD SD)
              | ((first | (with_reducible refine (RWhole_N hnn SB).mono ?_) | (with_reducible refine (RWhole_N hnn (NbS.al SB)).mono ?_)); rintro en wC ⟨gC, aC, kC, cC, aC', kC', cC', φC, rfl, LC, VC, SC⟩; have LAC := Lib.hid (LAB.out.trans LC.out); (try (have vv := NbS.facts SC; obtain ⟨v20, v21, v22, v23, v24, v25⟩ := vv)); obtain ⟨q0, q1, q2, q3, q4⟩ := hcf.out φC _ wC LAC SC)
              | ((first | (with_reducible refine (RTimes_N hD hM VA (Lib.hid φA.le_refl) Va LA hT1 hT2 SA).mono ?_) | (with_reducible refine (RTimes_N hD hM VA (Lib.hid φA.le_refl) Va LA hT1 hT2 (NbS.al SA)).mono ?_)); rintro en wB ⟨gB, aB, kB, cB, aB', kB', cB', φB, rfl, LB, VB, SB⟩; have LAB := Lib.hid (LA.out.trans LB.out); (try (have vv := NbS.facts SB; obtain ⟨v10, v11, v12, v13, v14, v15⟩ := vv)); obtain ⟨o0, o1, o2, o3, o4⟩ := hcf.out φB _ wB LAB SB)
              | ((first | (with_reducible refine (RFracOf_N hrk hmq HSH NBd).mono ?_) | (with_reducible refine (RFracOf_N hrk hmq HSH NBa).mono ?_)); rintro en wA ⟨gA, aA, kA, cA, aA', kA', cA', φA, rfl, LA, VA, SA⟩; (try (have vv := NbS.facts SA; obtain ⟨v00, v01, v02, v03, v04, v05⟩ := vv)); obtain ⟨n0', n1', n2', n3', n4'⟩ := hcf.out φA _ wA LA SA)
              | fail)
            all_goals
              refine onlyN_mk ?_
              have hk9 := fun x W s => hKK.out (x, .agg #[.bool gA, .slice aA kA cA, .slice aA' kA' cA'], .agg #[.bool gB, .slice aB kB cB, .slice aB' kB' cB'], .agg #[.bool gC, .slice aC kC cC, .slice aC' kC' cC'], gD, aD, kD, cD, aD', kD', cD') W s
              simp only [updA, List.foldl_cons, List.foldl_nil, List.setIfInBounds_toArray, List.set_cons_succ, List.set_cons_zero] at hk9
              refine hk9 _ _ (Lib.hid ⟨φD, LAD.out, ?_, by have h := VD.out; rw [hbq.out] at h; exact h⟩)
              first
                | with_reducible exact NbS.putNew SD _ _ _
                | with_reducible exact NbS.put SD _ _ _
          case h2 =>
            rintro ⟨b5, vA, vB, vC, gD, aD, kD, cD, aD', kD', cD'⟩ W9 hF9
            simp only [updA, List.foldl_cons, List.foldl_nil, List.setIfInBounds_toArray, List.set_cons_succ, List.set_cons_zero]
            obtain ⟨φ3, hl3, hR3, hV3⟩ := hF9.out
            obtain ⟨φ4, l4, i4, e4, _⟩ := hR3.inv.frzAt hR3.k hR3.l
            have ED := Lib.hid e4
            have L4 := Lib.hid (hl3.trans l4)
            have V4 := Lib.hid (hV3.mono l4)
            have Va4 := Lib.hid (Va.out.mono L4.out)
            have S4 := Lib.hid (Sa.out.mono L4.out)
            have EA4 := Lib.hid (L4.out _ _ EA.out)
            have HP4 := Lib.hid (HPa.out.mono L4.out)
            have M0 : Hid (MtS n w φ φ4 none W9) := Lib.hid ⟨i4, fun x hx => by cases hx⟩
            have M1 := MtS.make hn3 M0
            clear hF9 hl3 hR3 hV3 l4 i4 e4 M0 x0 x1 x2 x3 x4 y0 y1 y2 y3 y4 hcf hnx NB0 NBd NBa Ia EBa EA Va Sa HPa La LR hT1 hT2 hO1 hO2 hnq hbq hnn hM3
            go_upto_region 15 with fail
            generalize W9.alloc (.cells (madeCells #[.bool false] n) 4) = wM at *
            generalize W9.heap.size = e at *
            go_upto_region 16 with (go_at_call 59; (with_reducible refine (CloneR_any M1.out.inv.fz S4.out hnm hn3).mono ?_); rintro en wC ⟨aC, cg, rfl, hiC, hoC⟩; have HIC := Lib.hid hiC; have HOC := Lib.hid hoC; clear hiC hoC)
            obtain ⟨rs, hrl, hor, hrx⟩ := HOC.out.rawR
            have hrn : Hid (rs.length = n) := Lib.hid (by rw [hrl, hnm.out])
            obtain ⟨g, rfl, hg, -⟩ := hor.rawD hrn hpos.out
            have TS0 : Hid (TwS 46 w φ φ4 g cg rs e n (List.replicate n false) wC) := Lib.hid ⟨(M1.out.call HIC.out).inv, hor.base M1.out.inv.size, (M1.out.call HIC.out).o e rfl, fun h => by have h1 := ((M1.out.o e rfl).lt _ rfl).2; rw [← h] at h1; exact absurd h1 (Nat.not_lt.2 hg)⟩
            have HRX := Lib.hid hrx
            clear HIC HOC hrl hor hrx hg M1 em
            have hrep : List.replicate n false = trS l mq 0 := by rw [← hn.out]; rfl
            have ht0 : totQ l ≠ 0 := fun e0 => by
              have := tot_pos (l := l) (fun j hj => hwp.out j (by rw [← hn.out]; exact hj)) (by rw [hn.out]; exact hpos.out)
              rw [e0] at this
              exact absurd this (by decide)
            have TS1 : Hid (TwS 46 w φ φ4 g cg rs e n (trS l mq 0) wC) := Lib.hid (by rw [← hrep]; exact TS0.out)
            have HV0 : Hid (∀ m, m < n → FrX φ4 (rs.getD m raw0).v (trmX l mq (trS l mq 0) m) K3 K3) := Lib.hid (fun m hm => by
              have h1 := HRX.out m (by rw [hrn.out]; exact hm)
              rw [rx_getD, hxw.out m hm, ← trm_zero (m := mq) ht0 m] at h1
              exact h1.le HB.out.n3 HB.out.n3)
            have hBc : Hid (K3 * K2 + K2 * K3 ≤ M ∧ K3 * K2 ≤ M) := Lib.hid ⟨HB.out.m1, HB.out.m2⟩
            have hC0 := Lib.hid (fun (ψ : Phi) W (hf : Fz ψ W) => RWhole_any (n := 0) (by decide) (by decide) hf)
            rw [show ((0 : Int) : Rat) = 0 from rfl, show (0 : Int).natAbs = 0 from rfl] at hC0
            clear hrep ht0 TS0 HRX hrk hmq hxS HSH
            go_wp2
            go_loopw [] (fun wr => ∃ (r : Nat) (φ' : Phi) (rt : List Raw3), r ≤ cntN (trS l mq r) n ∧ Hid (φ4.le φ') ∧ Hid (rt.length = n) ∧ Hid (TwS 46 w φ φ' g cg rt e n (trS l mq r) wr) ∧ Hid (∀ m, m < n → FrX φ' (rt.getD m raw0).v (trmX l mq (trS l mq r) m) K3 K3)) (fun wr => n + 1 - cntW wr e n)
            case atStart => exact ⟨0, φ4, rs, Nat.zero_le _, Lib.hid φ4.le_refl, hrn, TS1, HV0⟩
            case round =>
              clear TS1 HV0
              rename World => wo
              obtain ⟨r, φ', rt, hr, hle, hrt, hT, hW⟩ := hrel
              have hcl : Hid (∀ k, (tkL (trmX l mq (trS l mq r)) (bndQ l mq) (trS l mq r) k).length = n) := Lib.hid (fun k => by rw [tkL_len, trS_len, hn.out])
              have hcw := hT.out.cnt (show Hid ((trS l mq r).length = n) from Lib.hid (by rw [trS_len, hn.out]))
              have HED := Lib.hid (hle.out _ _ ED.out)
              have HVB := Lib.hid (V4.out.mono hle.out)
              go_wp2
              go_loopw [14, 62] (fun av iv wr => ∃ (k : Nat) (bv : Bool), k ≤ n ∧ iv = .int .i64 (k : Int) ∧ av = .bool bv ∧ Hid (tkA (trmX l mq (trS l mq r)) (bndQ l mq) (trS l mq r) k = bv) ∧ Hid (TwS 46 w φ φ' g cg rt e n (tkL (trmX l mq (trS l mq r)) (bndQ l mq) (trS l mq r) k) wr)) (fun _ iv _ => n - (intOf iv).toNat)
              case atStart => exact ⟨0, false, Nat.zero_le _, rfl, rfl, Lib.hid rfl, hT⟩
              case round =>
                clear hT
                obtain ⟨k, bv, hk, rfl, rfl, hbv, hT⟩ := hrel
                by_cases hlt : k < n
                · have hlti : (k : Int) < (n : Int) := by omega
                  have hLk := Lib.hid (hcl.out k)
                  have hX := Lib.hid (hW.out k hlt)
                  have hyes := Lib.hid (fun (h1 : (tkL (trmX l mq (trS l mq r)) (bndQ l mq) (trS l mq r) k).getD k false = false) (h2 : bndQ l mq < trmX l mq (trS l mq r) k) => tk_yes h1 h2)
                  have hno := Lib.hid (fun (h : ¬ ((tkL (trmX l mq (trS l mq r)) (bndQ l mq) (trS l mq r) k).getD k false = false ∧ bndQ l mq < trmX l mq (trS l mq r) k)) => tk_no h)
                  obtain ⟨L, hL⟩ : ∃ L, tkL (trmX l mq (trS l mq r)) (bndQ l mq) (trS l mq r) k = L := ⟨_, rfl⟩
                  rw [hL] at hT hLk hyes hno
                  clear hL
                  generalize hr0 : rt.getD k raw0 = r0 at hX
                  obtain ⟨g6, x1, y1, z1, x2, y2, z2⟩ := r0
                  have hcf := Lib.hid (fun (W : World) (h : Hid (TwS 46 w φ φ' g cg rt e n L W)) => (by
                    have h1 := h.out.mark hLk hlt
                    have h2 := h.out.num hrt hlt
                    rw [hr0] at h2
                    exact ⟨h1.1, h2.1, h2.2.1, h2.2.2.1, box_cell HED.out φ'.le_refl h.out.inv.fz 0, box_cell HED.out φ'.le_refl h.out.inv.fz 1, box_cell HED.out φ'.le_refl h.out.inv.fz 2, h1.2⟩ : W.cell? ⟨e, k, none⟩ = some (.bool (L.getD k false)) ∧ W.cell? ⟨g, k * 3, none⟩ = some (.bool g6) ∧ W.cell? ⟨g, k * 3 + 1, none⟩ = some (.slice x1 y1 z1) ∧ W.cell? ⟨g, k * 3 + 2, none⟩ = some (.slice x2 y2 z2) ∧ W.cell? ⟨b5, 0, none⟩ = some (.bool gD) ∧ W.cell? ⟨b5, 1, none⟩ = some (.slice aD kD cD) ∧ W.cell? ⟨b5, 2, none⟩ = some (.slice aD' kD' cD') ∧ W.frozen? ⟨e, k, none⟩ = false))
                  clear hr0
                  have hX : Hid (FrX φ' (.agg #[.bool g6, .slice x1 y1 z1, .slice x2 y2 z2]) (trmX l mq (trS l mq r) k) K3 K3) := hX
                  obtain ⟨ik, hik⟩ : ∃ m, L.getD k false = m := ⟨_, rfl⟩
                  rw [hik] at hcf hyes hno
                  clear hik
                  have hTd : Hid (TwS 46 w φ φ' g cg rt e n L wr.drew) := Lib.hid hT.out.drew
                  obtain ⟨p0, p1, p2, p3, p4, p5, p6, p7⟩ := hcf.out wr hT
                  obtain ⟨d0, d1, d2, d3, d4, d5, d6, _⟩ := hcf.out wr.drew hTd
                  cases ik
                  · obtain ⟨q, hq⟩ : ∃ q, Hid (cmpQ (trmX l mq (trS l mq r) k) (bndQ l mq) = q) := ⟨_, Lib.hid rfl⟩
                    by_cases hposq : 0 < q
                    · have hpd : decide (0 < q) = true := decide_eq_true hposq
                      have hlb : Hid (bndQ l mq < trmX l mq (trS l mq r) k) := Lib.hid (cmpQ_pos.1 (by rw [hq.out]; exact hposq))
                      have hy := Lib.hid (hyes.out rfl hlb.out)
                      clear hyes hno
                      go_upto_region 20 with fail
                      go_region_held3 (fun w' => w'.cell? ⟨e, k, none⟩ = some (.bool false) ∧ w'.cell? ⟨g, k * 3, none⟩ = some (.bool g6) ∧ w'.cell? ⟨g, k * 3 + 1, none⟩ = some (.slice x1 y1 z1) ∧ w'.cell? ⟨g, k * 3 + 2, none⟩ = some (.slice x2 y2 z2) ∧ w'.cell? ⟨b5, 0, none⟩ = some (.bool gD) ∧ w'.cell? ⟨b5, 1, none⟩ = some (.slice aD kD cD) ∧ w'.cell? ⟨b5, 2, none⟩ = some (.slice aD' kD' cD')) (first | done | with_reducible exact ⟨d0, d1, d2, d3, d4, d5, d6⟩ | with_reducible exact ⟨by assumption, by assumption, by assumption, by assumption, by assumption, by assumption, by assumption⟩ | fail) (first
                        | ((with_reducible refine (ROrder_any hD hM hTd.out.inv.fz hX.out HVB.out hBc.out.1 hBc.out.2 hq).mono ?_); rintro en w7 ⟨rfl, hb7⟩; have S7 := Lib.hid (hTd.out.callB hb7); obtain ⟨o0, o1, o2, o3, o4, o5, o6, o7⟩ := hcf.out w7 S7; clear hb7)
                        | fail)
                      all_goals
                        have S8 : Hid (TwS 46 w φ φ' g cg rt e n (tkL (trmX l mq (trS l mq r)) (bndQ l mq) (trS l mq r) (k + 1)) (w7.setCell ⟨e, k, none⟩ (.bool true))) := Lib.hid (by rw [hy.out.1]; exact S7.out.setE hLk hlt true)
                        clear p0 p1 p2 p3 p4 p5 p6 p7 d0 d1 d2 d3 d4 d5 d6 hT hTd hcf S7
                        go_wp2
                        go_roundw
                        case rel => exact ⟨k + 1, true, by omega, by go_num, rfl, Lib.hid hy.out.2, S8⟩
                        case measure => (simp [intOf] <;> omega)
                    · have hpd : decide (0 < q) = false := decide_eq_false hposq
                      have hlb : Hid (¬ bndQ l mq < trmX l mq (trS l mq r) k) := Lib.hid (fun h => hposq (by rw [← hq.out]; exact cmpQ_pos.2 h))
                      have hy := Lib.hid (hno.out (fun h => hlb.out h.2))
                      clear hyes hno
                      go_upto_region 20 with fail
                      go_region_held3 (fun w' => w'.cell? ⟨e, k, none⟩ = some (.bool false) ∧ w'.cell? ⟨g, k * 3, none⟩ = some (.bool g6) ∧ w'.cell? ⟨g, k * 3 + 1, none⟩ = some (.slice x1 y1 z1) ∧ w'.cell? ⟨g, k * 3 + 2, none⟩ = some (.slice x2 y2 z2) ∧ w'.cell? ⟨b5, 0, none⟩ = some (.bool gD) ∧ w'.cell? ⟨b5, 1, none⟩ = some (.slice aD kD cD) ∧ w'.cell? ⟨b5, 2, none⟩ = some (.slice aD' kD' cD')) (first | done | with_reducible exact ⟨d0, d1, d2, d3, d4, d5, d6⟩ | with_reducible exact ⟨by assumption, by assumption, by assumption, by assumption, by assumption, by assumption, by assumption⟩ | fail) (first
                        | ((with_reducible refine (ROrder_any hD hM hTd.out.inv.fz hX.out HVB.out hBc.out.1 hBc.out.2 hq).mono ?_); rintro en w7 ⟨rfl, hb7⟩; have S7 := Lib.hid (hTd.out.callB hb7); obtain ⟨o0, o1, o2, o3, o4, o5, o6, o7⟩ := hcf.out w7 S7; clear hb7)
                        | fail)
                      all_goals
                        have S8 : Hid (TwS 46 w φ φ' g cg rt e n (tkL (trmX l mq (trS l mq r)) (bndQ l mq) (trS l mq r) (k + 1)) w7) := Lib.hid (by rw [hy.out.1]; exact S7.out)
                        clear p0 p1 p2 p3 p4 p5 p6 p7 d0 d1 d2 d3 d4 d5 d6 hT hTd hcf S7
                        go_wp2
                        go_roundw
                        case rel => exact ⟨k + 1, bv, by omega, by go_num, rfl, Lib.hid (by rw [hy.out.2]; exact hbv.out), S8⟩
                        case measure => (simp [intOf] <;> omega)
                  · have hy := Lib.hid (hno.out (fun h => by have := h.1; simp at this))
                    clear hyes hno
                    go_upto_region 20 with fail
                    have S8 : Hid (TwS 46 w φ φ' g cg rt e n (tkL (trmX l mq (trS l mq r)) (bndQ l mq) (trS l mq r) (k + 1)) wr) := Lib.hid (by rw [hy.out.1]; exact hT.out)
                    go_quiet (fail)
                    clear p0 p1 p2 p3 p4 p5 p6 p7 d0 d1 d2 d3 d4 d5 d6 hT hTd hcf
                    go_wp2
                    go_roundw
                    case rel => exact ⟨k + 1, bv, by omega, by go_num, rfl, Lib.hid (by rw [hy.out.2]; exact hbv.out), Lib.hid (S8.out.callB (bdrewN (Below.refl _ wr) _))⟩
                    case measure => (simp [intOf] <;> omega)
                · have hkn : n = k := by omega
                  subst hkn
                  cases bv
                  · have hno := Lib.hid ((tkA_no hbv.out).1)
                    rw [hno.out] at hT
                    have hC : Hid (trC l mq = trS l mq r) := Lib.hid (trC_fix (by rw [hn.out]; have := cntN_le (trS l mq r) n; omega) (by rw [hn.out]; exact hbv.out))
                    rw [hC.out] at hRR
                    have hcl0 : Hid ((trS l mq r).length = n) := Lib.hid (by rw [trS_len, hn.out])
                    clear hcl hno hcw HVB HED hbd hmo hBc
                    obtain ⟨c, hc⟩ : ∃ c, trS l mq r = c := ⟨_, rfl⟩
                    rw [hc] at hT hRR hcl0 hW
                    clear hbv hC hr hc
                    go_wp2
                    go_loopw [20, 136] (fun qv iv wr => ∃ (j q : Nat), j ≤ n ∧ q ≤ j ∧ iv = .int .i64 (j : Int) ∧ qv = .int .i64 (q : Int) ∧ Hid (cntN c j = q) ∧ Hid (TwS 46 w φ φ' g cg rt e n c wr)) (fun _ iv _ => n - (intOf iv).toNat)
                    case atStart => exact ⟨0, 0, Nat.zero_le _, Nat.le_refl _, rfl, rfl, Lib.hid rfl, hT⟩
                    case round =>
                      clear hT
                      obtain ⟨j, q, hj, hqj, rfl, rfl, hcq, hT⟩ := hrel
                      by_cases hjl : j < n
                      · have hjli : (j : Int) < (n : Int) := by omega
                        have q6 := (hT.out.mark hcl0 hjl).1
                        obtain ⟨ik, hik⟩ : ∃ m, c.getD j false = m := ⟨_, rfl⟩
                        rw [hik] at q6
                        have HIK := Lib.hid hik
                        clear hik
                        cases ik
                        · have hq1 : Hid (cntN c (j + 1) = q) := Lib.hid (by rw [cntN_no HIK.out]; exact hcq.out)
                          go_wp2
                          go_roundw
                          case rel => exact ⟨j + 1, q, by omega, by omega, by go_num, rfl, hq1, hT⟩
                          case measure => (simp [intOf] <;> omega)
                        · have hq1 : Hid (cntN c (j + 1) = q + 1) := Lib.hid (by rw [cntN_yes HIK.out, hcq.out])
                          go_wp2
                          go_roundw
                          case rel => exact ⟨j + 1, q + 1, by omega, by omega, by go_num, by go_num, hq1, hT⟩
                          case measure => (simp [intOf] <;> omega)
                      · have hkn : n = j := by omega
                        subst hkn
                        obtain ⟨zs, hzs⟩ : ∃ zs, (List.range n).map (trmX l mq c) = zs := ⟨_, rfl⟩
                        have hzn : Hid (zs.length = n) := Lib.hid (by rw [← hzs]; simp)
                        obtain ⟨L, hL⟩ : ∃ L, (shtR zs).1 = L := ⟨_, rfl⟩
                        obtain ⟨F, hF⟩ : ∃ F, (shtR zs).2 = F := ⟨_, rfl⟩
                        have hSR : Hid (shtR zs = (L, F)) := Lib.hid (by rw [← hL, ← hF])
                        have hR2 := hRR.out
                        rw [hzs, hL, hF, hcq.out] at hR2
                        have HR2 := Lib.hid hR2
                        obtain ⟨φ2, l2, i2, s2, _⟩ := (hT.out.o.rxs (xs := zs) (N := K3) (D := K3) (by rw [hrt.out, hzn.out]) (fun m hm => by
                          rw [hrt.out] at hm
                          rw [← hzs, range_getD _ hm]
                          exact hW.out m hm)).release hT.out.inv
                        have I2 := Lib.hid i2
                        have S2 := Lib.hid s2
                        have HP2 := Lib.hid (HP4.out.mono (hle.out.trans l2))
                        clear i2 s2 l2 hR2 hL hF hzs hW hT hRR HP4
                        by_cases hF0 : F = 0
                        · subst hF0
                          have hR3 : Hid ((L, (q : Int), 0) = R) := HR2
                          go_wp2_with (go_at_call 44; (with_reducible refine (Rshut_any hD hM HB.out.m3 HB.out.m3 I2.out.fz HP2.out S2.out hzn hn3 hSR).mono ?_); rintro en w9 ⟨a9, c9, φ9, rfl, hi9, hs9⟩; have I9 := Lib.hid (I2.out.call hi9); have S9 := Lib.hid hs9; clear hi9 hs9)
                          go_ret3
                          have h3 := hR3.out
                          subst h3
                          exact ⟨a9, c9, φ9, rfl, I9.out, S9.out⟩
                        · have h0i : (F == 0) = false := by simp [hF0]
                          have h0j : (F != 0) = true := by simp [hF0]
                          have hE : Hid (([], 0, F) = R) := Lib.hid (by rw [← HR2.out, if_pos hF0])
                          go_wp2_with (go_at_call 44; (with_reducible refine (Rshut_any hD hM HB.out.m3 HB.out.m3 I2.out.fz HP2.out S2.out hzn hn3 hSR).mono ?_); rintro en w9 ⟨a9, c9, φ9, rfl, hi9, hs9⟩; have I9 := Lib.hid (I2.out.call hi9); clear hi9 hs9)
                          go_ret3
                          exact TrPost.err hE.out I9.out
                  · have hlt2 := (tkA_cnt (c := trS l mq r) (by rw [trS_len, hn.out]) (Nat.le_refl n)).2 hbv.out
                    have htl : tkL (trmX l mq (trS l mq r)) (bndQ l mq) (trS l mq r) n = trS l mq (r + 1) := by rw [← hn.out]; rfl
                    rw [htl] at hlt2 hT
                    have hle3 := cntN_le (trS l mq (r + 1)) n
                    have hcl0 : Hid ((trS l mq (r + 1)).length = n) := Lib.hid (by rw [trS_len, hn.out])
                    clear hW hcl hbv htl
                    obtain ⟨c, hc⟩ : ∃ c, trS l mq (r + 1) = c := ⟨_, rfl⟩
                    rw [hc] at hT hlt2 hle3 hcl0
                    have HCE := Lib.hid hc
                    clear hc
                    go_upto_region 25 with (go_at_call 17; (with_reducible refine (hC0.out _ _ hT.out.inv.fz).mono ?_); rintro en w8 ⟨v8, φ8, rfl, hi8, hv8⟩; obtain ⟨g7, n7, m7, k7, k7', a7, c7, a7', c7', rfl, _⟩ := hv8.open; have hT8 := Lib.hid (hT.out.call hi8); have L8 := Lib.hid hi8.le; have HV8 := Lib.hid hv8; clear hi8 hv8)
                    have TQ0 := Lib.hid (TqS.new hT8.out #[.bool g7, .slice a7 k7 c7, .slice a7' k7' c7'] 46)
                    have HA0 : Hid (FrX φ8 (.agg #[.bool g7, .slice a7 k7 c7, .slice a7' k7' c7']) (sumF (rstF l c) 0) (0 * N * N ^ 0) (N ^ 0)) := Lib.hid (by
                      have h := HV8.out.le (Nat.zero_le (0 * N * N ^ 0)) (Nat.le_of_eq (by simp : 1 = N ^ 0))
                      exact h)
                    clear hT hT8 HV8
                    generalize w8.alloc (.cells #[.bool g7, .slice a7 k7 c7, .slice a7' k7' c7'] 46) = wb at *
                    generalize w8.heap.size = b7 at *
                    go_wp2
                    go_loopw [16, 88] (fun qv iv wr => ∃ (j q : Nat) (φ'' : Phi) (g7 : Bool) (a7 : Option Addr) (k7 c7 : Nat) (a7' : Option Addr) (k7' c7' : Nat), j ≤ n ∧ q ≤ j ∧ iv = .int .i64 (j : Int) ∧ qv = .int .i64 (q : Int) ∧ Hid (cntN c j = q) ∧ Hid (φ'.le φ'') ∧ Hid (TqS 46 46 w φ φ'' b7 #[.bool g7, .slice a7 k7 c7, .slice a7' k7' c7'] g cg rt e n c wr) ∧ Hid (FrX φ'' (.agg #[.bool g7, .slice a7 k7 c7, .slice a7' k7' c7']) (sumF (rstF l c) j) (j * N * N ^ j) (N ^ j))) (fun _ iv _ => n - (intOf iv).toNat)
                    case atStart => exact ⟨0, 0, φ8, g7, a7, k7, c7, a7', k7', c7', Nat.zero_le _, Nat.le_refl _, rfl, rfl, Lib.hid rfl, L8, TQ0, HA0⟩
                    case round =>
                      clear TQ0 HA0
                      obtain ⟨j, q, φ'', g7, a7, k7, c7, a7', k7', c7', hj, hqj, rfl, rfl, hcq, hl7, hQ, hV⟩ := hrel
                      by_cases hjl : j < n
                      · have hjli : (j : Int) < (n : Int) := by omega
                        have q6 := (hQ.out.t.mark hcl0 hjl).1
                        obtain ⟨ik, hik⟩ : ∃ m, c.getD j false = m := ⟨_, rfl⟩
                        rw [hik] at q6
                        have HIK := Lib.hid hik
                        clear hik
                        have HMO := Lib.hid (hmo.out j hjl)
                        cases ik
                        · have hq1 : Hid (cntN c (j + 1) = q) := Lib.hid (by rw [cntN_no HIK.out]; exact hcq.out)
                          go_upto_region 30 with fail
                          clear q6
                          have HBD1 : Hid (j * N * N ^ j * N + N * N ^ j ≤ M ∧ N ^ j * N ≤ M) := Lib.hid (hbd.out j hjl).1
                          have HBD2 : Hid (j * N * N ^ j * N + N * N ^ j ≤ (j + 1) * N * N ^ (j + 1) ∧ N ^ j * N ≤ N ^ (j + 1)) := Lib.hid (hbd.out j hjl).2
                          obtain ⟨bo, oo, rfl, fo⟩ := S4.out.rxD hnm hjl
                          obtain ⟨g6, a6, k6, c6, a8, k8, c8, hx, f2⟩ := fo j hjl
                          rw [rx_getD, hxw.out j hjl] at hx
                          have FX := Lib.hid f2
                          have LZ := Lib.hid (hle.out.trans hl7.out)
                          have HX := Lib.hid (hx.mono LZ.out)
                          have hQd : Hid (TqS 46 46 w φ φ'' b7 #[.bool g7, .slice a7 k7 c7, .slice a7' k7' c7'] g cg rt e n c wr.drew) := Lib.hid hQ.out.drew
                          have hcf := Lib.hid (fun (ψ : Phi) (W : World) (hl : Hid (φ''.le ψ)) (h : Hid (TqS 46 46 w φ ψ b7 #[.bool g7, .slice a7 k7 c7, .slice a7' k7' c7'] g cg rt e n c W)) => (⟨(FX.out W (h.out.r.inv.fz.sub (LZ.out.trans hl.out))).1, (FX.out W (h.out.r.inv.fz.sub (LZ.out.trans hl.out))).2.1, (FX.out W (h.out.r.inv.fz.sub (LZ.out.trans hl.out))).2.2, h.out.r.k.cell 0, h.out.r.k.cell 1, h.out.r.k.cell 2⟩ : W.cell? ⟨bo, oo + j * 3, none⟩ = some (.bool g6) ∧ W.cell? ⟨bo, oo + j * 3 + 1, none⟩ = some (.slice a6 k6 c6) ∧ W.cell? ⟨bo, oo + j * 3 + 2, none⟩ = some (.slice a8 k8 c8) ∧ W.cell? ⟨b7, 0, none⟩ = some (.bool g7) ∧ W.cell? ⟨b7, 1, none⟩ = some (.slice a7 k7 c7) ∧ W.cell? ⟨b7, 2, none⟩ = some (.slice a7' k7' c7')))
                          have LR := Lib.hid φ''.le_refl
                          obtain ⟨y0, y1, y2, y3, y4, y5⟩ := hcf.out φ'' wr LR hQ
                          obtain ⟨x0, x1, x2, x3, x4, x5⟩ := hcf.out φ'' wr.drew LR hQd
                          clear fo f2 hx hbd hmo hQ
                          apply wp_region_cutV (fun (i : Bool × Option Addr × Nat × Nat × Option Addr × Nat × Nat) => [(97, .agg #[.bool g7, .slice a7 k7 c7, .slice a7' k7' c7']), (98, .slice (some ⟨bo, oo, none⟩) n cw), (99, .int .i64 (j : Int)), (100, .pointer (some ⟨bo, oo + j * 3, none⟩)), (101, .agg #[.bool g6, .slice a6 k6 c6, .slice a8 k8 c8]), (102, .agg #[.bool i.1, .slice i.2.1 i.2.2.1 i.2.2.2.1, .slice i.2.2.2.2.1 i.2.2.2.2.2.1 i.2.2.2.2.2.2])])
                            (fun i W => Hid (∃ φD, φ''.le φD ∧ TqS 46 46 w φ φD b7 #[.bool i.1, .slice i.2.1 i.2.2.1 i.2.2.2.1, .slice i.2.2.2.2.1 i.2.2.2.2.2.1 i.2.2.2.2.2.2] g cg rt e n c W ∧ FrX φD (.agg #[.bool i.1, .slice i.2.1 i.2.2.1 i.2.2.2.1, .slice i.2.2.2.2.1 i.2.2.2.2.2.1 i.2.2.2.2.2.2]) (sumF (rstF l c) j + wgtQ l j) ((j + 1) * N * N ^ (j + 1)) (N ^ (j + 1))))
                          case h1 =>
                            intro KK hKK
                            go_region_law (first
                              | (go_simp; go_at_call 18; (with_reducible refine (RPlus_Q hD hM hV HX HBD1 HBD2 hQd).mono ?_); rintro en wD ⟨gE, aE, kE, cE, aE', kE', cE', φD, rfl, LD, VD, SD⟩; have rf0 := SD.out.r.k.frz 0; have rf1 := SD.out.r.k.frz 1; have rf2 := SD.out.r.k.frz 2; obtain ⟨u0, u1, u2, u3, u4, u5⟩ := hcf.out φD wD LD SD)
                              | fail)
                            all_goals
                              refine onlyN_mk ?_
                              have hk9 := fun W s => hKK.out (gE, aE, kE, cE, aE', kE', cE') W s
                              simp only [updA, List.foldl_cons, List.foldl_nil, List.setIfInBounds_toArray, List.set_cons_succ, List.set_cons_zero] at hk9
                              exact hk9 _ (Lib.hid ⟨φD, LD.out, SD.out.put3 _ _ _, VD.out⟩)
                          case h2 =>
                            rintro ⟨gE, aE, kE, cE, aE', kE', cE'⟩ wE hE
                            simp only [updA, List.foldl_cons, List.foldl_nil, List.setIfInBounds_toArray, List.set_cons_succ, List.set_cons_zero]
                            obtain ⟨φD, hlD, hSD, hVD⟩ := hE.out
                            have SE := Lib.hid hSD
                            have LD := Lib.hid (hl7.out.trans hlD)
                            have PA : Hid (FrX φD (.agg #[.bool gE, .slice aE kE cE, .slice aE' kE' cE']) (sumF (rstF l c) (j + 1)) ((j + 1) * N * N ^ (j + 1)) (N ^ (j + 1))) := Lib.hid (by rw [rstF_no HIK.out]; exact hVD)
                            clear hE hlD hSD hVD x0 x1 x2 x3 x4 x5 y0 y1 y2 y3 y4 y5 hcf hQd
                            go_wp2
                            go_roundw
                            case rel => exact ⟨j + 1, q, φD, gE, aE, kE, cE, aE', kE', cE', by omega, by omega, by go_num, rfl, hq1, LD, SE, PA⟩
                            case measure => (simp [intOf] <;> omega)
                        · have hq1 : Hid (cntN c (j + 1) = q + 1) := Lib.hid (by rw [cntN_yes HIK.out, hcq.out])
                          have PA : Hid (FrX φ'' (.agg #[.bool g7, .slice a7 k7 c7, .slice a7' k7' c7']) (sumF (rstF l c) (j + 1)) ((j + 1) * N * N ^ (j + 1)) (N ^ (j + 1))) := Lib.hid (by rw [rstF_yes HIK.out]; exact hV.out.le HMO.out.1 HMO.out.2)
                          go_wp2
                          go_roundw
                          case rel => exact ⟨j + 1, q + 1, φ'', g7, a7, k7, c7, a7', k7', c7', by omega, by omega, by go_num, by go_num, hq1, hl7, hQ, PA⟩
                          case measure => (simp [intOf] <;> omega)
                      · have hkn : n = j := by omega
                        subst hkn
                        obtain ⟨φ3, l3, tw3, e3⟩ := hQ.out.frz
                        have T3 := Lib.hid tw3
                        have E3 := Lib.hid e3
                        have V7 : Hid (FrX φ3 (.agg #[.bool g7, .slice a7 k7 c7, .slice a7' k7' c7']) (rstQ l c) K1 K1) := Lib.hid (by
                          have h := (hV.out.mono l3).le HB.out.s1 HB.out.s2
                          rw [show sumF (rstF l c) n = rstQ l c by unfold rstQ; rw [hn.out]] at h
                          exact h)
                        have L3 := Lib.hid (hle.out.trans (hl7.out.trans l3))
                        have L3' := Lib.hid (hl7.out.trans l3)
                        have hLf : Hid (totQ l - bndQ l mq * (((q : Nat) : Int) : Rat) = lftQ l mq c) := Lib.hid (by unfold lftQ; rw [hn.out, hcq.out])
                        have hM3 : Hid (N ≤ M ∧ K2 ≤ M ∧ K1 * (K2 * 1) + K2 * n * K1 ≤ M ∧ K1 * (K2 * 1) ≤ M ∧ N * KL * K1 ≤ M) := Lib.hid ⟨Nat.le_trans HB.out.n3 HB.out.m3, Nat.le_trans HB.out.k3 HB.out.m3, Nat.le_trans HB.out.l1 HB.out.m4, Nat.le_trans HB.out.l2 HB.out.m4, Nat.le_trans HB.out.f4 HB.out.m3⟩
                        clear hQ hV e3 tw3 l3 hl7 hbd hmo hcq
                        go_wp2
                        go_loopw [106] (fun iv wr => ∃ (k : Nat) (φ9 : Phi) (rt9 : List Raw3), k ≤ n ∧ iv = .int .i64 (k : Int) ∧ Hid (φ3.le φ9) ∧ Hid (rt9.length = n) ∧ Hid (TwS 46 w φ φ9 g cg rt9 e n c wr) ∧ Hid (∀ m, m < k → FrX φ9 (rt9.getD m raw0).v (trmX l mq c m) K3 K3)) (fun iv _ => n - (intOf iv).toNat)
                        case atStart => exact ⟨0, φ3, rt, Nat.zero_le _, rfl, Lib.hid φ3.le_refl, hrt, T3, Lib.hid (fun m hm => absurd hm (Nat.not_lt_zero m))⟩
                        case round =>
                          clear T3
                          obtain ⟨k, φ9, rt9, hk, rfl, hl9, hrt9, hT9, hW9⟩ := hrel
                          by_cases hlt : k < n
                          · have hlti : (k : Int) < (n : Int) := by omega
                            have q6 := (hT9.out.mark hcl0 hlt).1
                            obtain ⟨ik, hik⟩ : ∃ m, c.getD k false = m := ⟨_, rfl⟩
                            rw [hik] at q6
                            have HIK := Lib.hid hik
                            clear hik
                            have hWn := Lib.hid (fun (φA : Phi) (hlA : Hid (φ9.le φA)) (r9 : Raw3) (hr9 : Hid (FrX φA r9.v (trmX l mq c k) K3 K3)) => (fun m hm => by
                              by_cases em : m = k
                              · subst em
                                rw [show (rt9.set m r9).getD m raw0 = r9 by simp [List.getD_eq_getElem?_getD, List.getElem?_set, hrt9.out, hlt]]
                                exact hr9.out
                              · rw [show (rt9.set k r9).getD m raw0 = rt9.getD m raw0 by simp [List.getD_eq_getElem?_getD, List.getElem?_set, Ne.symm em]]
                                exact (hW9.out m (by omega)).mono hlA.out : ∀ m, m < k + 1 → FrX φA ((rt9.set k r9).getD m raw0).v (trmX l mq c m) K3 K3))
                            have L9 := Lib.hid (L3.out.trans hl9.out)
                            have L9' := Lib.hid (L3'.out.trans hl9.out)
                            cases ik
                            · go_upto_region 37 with fail
                              clear q6
                              obtain ⟨bo, oo, rfl, fo⟩ := S4.out.rxD hnm hlt
                              obtain ⟨g6, a6, k6, c6, a8, k8, c8, hx, f2⟩ := fo k hlt
                              rw [rx_getD, hxw.out k hlt] at hx
                              have FX := Lib.hid f2
                              have HX := Lib.hid (hx.mono L9.out)
                              have HA9 := Lib.hid (Va4.out.mono L9.out)
                              have HB9 := Lib.hid (HVB.out.mono L9'.out)
                              have HR9 := Lib.hid (V7.out.mono hl9.out)
                              have E9a := Lib.hid (L9.out _ _ EA4.out)
                              have E9b := Lib.hid (L9'.out _ _ HED.out)
                              have E9c := Lib.hid (hl9.out _ _ E3.out)
                              have hr0 : Hid (rstQ l c ≠ 0) := Lib.hid (by
                                have h3 := rst_pos (l := l) (fun j hj => hwp.out j (by rw [← hn.out]; exact hj)) (by rw [hn.out]; exact hlt) HIK.out
                                intro e0
                                rw [e0] at h3
                                exact absurd h3 (by decide))
                              have hbx : Hid (trmX l mq c k = wgtQ l k * lftQ l mq c / rstQ l c) := Lib.hid (by unfold trmX; rw [HIK.out]; rfl)
                              have hTd : Hid (TwS 46 w φ φ9 g cg rt9 e n c wr.drew) := Lib.hid hT9.out.drew
                              have hcf := Lib.hid (fun (ψ : Phi) (w' : World) (hl : φ9.le ψ) (hf : Fz ψ w') => (⟨(FX.out w' (hf.sub (L9.out.trans hl))).1, (FX.out w' (hf.sub (L9.out.trans hl))).2.1, (FX.out w' (hf.sub (L9.out.trans hl))).2.2, box_cell E9a.out hl hf 0, box_cell E9a.out hl hf 1, box_cell E9a.out hl hf 2, box_cell E9b.out hl hf 0, box_cell E9b.out hl hf 1, box_cell E9b.out hl hf 2, box_cell E9c.out hl hf 0, box_cell E9c.out hl hf 1, box_cell E9c.out hl hf 2⟩ : w'.cell? ⟨bo, oo + k * 3, none⟩ = some (.bool g6) ∧ w'.cell? ⟨bo, oo + k * 3 + 1, none⟩ = some (.slice a6 k6 c6) ∧ w'.cell? ⟨bo, oo + k * 3 + 2, none⟩ = some (.slice a8 k8 c8) ∧ w'.cell? ⟨bt, 0, none⟩ = some (.bool g0) ∧ w'.cell? ⟨bt, 1, none⟩ = some (.slice a0 p0 c0) ∧ w'.cell? ⟨bt, 2, none⟩ = some (.slice a0' p1 c0') ∧ w'.cell? ⟨b5, 0, none⟩ = some (.bool gD) ∧ w'.cell? ⟨b5, 1, none⟩ = some (.slice aD kD cD) ∧ w'.cell? ⟨b5, 2, none⟩ = some (.slice aD' kD' cD') ∧ w'.cell? ⟨b7, 0, none⟩ = some (.bool g7) ∧ w'.cell? ⟨b7, 1, none⟩ = some (.slice a7 k7 c7) ∧ w'.cell? ⟨b7, 2, none⟩ = some (.slice a7' k7' c7')))
                              have hst := Lib.hid (fun (ψ : Phi) (W : World) (h : Hid (TwS 46 w φ ψ g cg rt9 e n c W)) => (⟨⟨_, (h.out.num hrt9 hlt).1⟩, ⟨_, (h.out.num hrt9 hlt).2.1⟩, ⟨_, (h.out.num hrt9 hlt).2.2.1⟩, (h.out.num hrt9 hlt).2.2.2 _, (h.out.num hrt9 hlt).2.2.2 _, (h.out.num hrt9 hlt).2.2.2 _⟩ : (∃ v, W.cell? ⟨g, k * 3, none⟩ = some v) ∧ (∃ v, W.cell? ⟨g, k * 3 + 1, none⟩ = some v) ∧ (∃ v, W.cell? ⟨g, k * 3 + 2, none⟩ = some v) ∧ W.frozen? ⟨g, k * 3, none⟩ = false ∧ W.frozen? ⟨g, k * 3 + 1, none⟩ = false ∧ W.frozen? ⟨g, k * 3 + 2, none⟩ = false))
                              obtain ⟨y0, y1, y2, y3, y4, y5, y6, y7, y8, y9, y10, y11⟩ := hcf.out φ9 wr φ9.le_refl hT9.out.inv.fz
                              obtain ⟨x0, x1, x2, x3, x4, x5, x6, x7, x8, x9, x10, x11⟩ := hcf.out φ9 wr.drew φ9.le_refl hTd.out.inv.fz
                              clear fo f2 hx
                              go_region_held3 (fun w' => w'.cell? ⟨bo, oo + k * 3, none⟩ = some (.bool g6) ∧ w'.cell? ⟨bo, oo + k * 3 + 1, none⟩ = some (.slice a6 k6 c6) ∧ w'.cell? ⟨bo, oo + k * 3 + 2, none⟩ = some (.slice a8 k8 c8) ∧ w'.cell? ⟨bt, 0, none⟩ = some (.bool g0) ∧ w'.cell? ⟨bt, 1, none⟩ = some (.slice a0 p0 c0) ∧ w'.cell? ⟨bt, 2, none⟩ = some (.slice a0' p1 c0') ∧ w'.cell? ⟨b5, 0, none⟩ = some (.bool gD) ∧ w'.cell? ⟨b5, 1, none⟩ = some (.slice aD kD cD) ∧ w'.cell? ⟨b5, 2, none⟩ = some (.slice aD' kD' cD') ∧ w'.cell? ⟨b7, 0, none⟩ = some (.bool g7) ∧ w'.cell? ⟨b7, 1, none⟩ = some (.slice a7 k7 c7) ∧ w'.cell? ⟨b7, 2, none⟩ = some (.slice a7' k7' c7')) (first | done | with_reducible exact ⟨x0, x1, x2, x3, x4, x5, x6, x7, x8, x9, x10, x11⟩ | with_reducible exact ⟨by assumption, by assumption, by assumption, by assumption, by assumption, by assumption, by assumption, by assumption, by assumption, by assumption, by assumption, by assumption⟩ | with_reducible exact hcf.out φE _ LAE.out (SE.out.setO hrt9 hlt gE aE kE cE aE' kE' cE').inv.fz | fail) (first
                                | ((with_reducible refine (ROver_any hD hM SD.out.inv.fz VD.out (HR9.out.mono LAD.out) hr0.out hM3.out.2.2.2.2 hM3.out.2.2.2.2 HB.out.m6).mono ?_); rintro en wE ⟨vE, φE, rfl, hiE, hvE⟩; have hvE := hvE.le HB.out.f4 HB.out.f4; obtain ⟨gE, nE, mE, kE, kE', aE, cE, aE', cE', rfl, _⟩ := hvE.open; have SE := Lib.hid (SD.out.call hiE); have LAE := Lib.hid (LAD.out.trans hiE.le); have VE := Lib.hid hvE; obtain ⟨s0, s1, s2, s3, s4, s5, s6, s7, s8, s9, s10, s11⟩ := hcf.out φE wE LAE.out SE.out.inv.fz; obtain ⟨⟨_, z0⟩, ⟨_, z1⟩, ⟨_, z2⟩, z3, z4, z5⟩ := hst.out φE wE SE; clear hiE hvE)
                                | ((with_reducible refine (RTimes_any hD hM SC.out.inv.fz (HX.out.mono LAC.out) VC.out HB.out.m11 HB.out.m11 hM3.out.1 HB.out.m4).mono ?_); rintro en wD ⟨vD, φD, rfl, hiD, hvD⟩; have SD := Lib.hid (SC.out.call hiD); have LAD := Lib.hid (LAC.out.trans hiD.le); have VD := Lib.hid hvD; obtain ⟨r0, r1, r2, r3, r4, r5, r6, r7, r8, r9, r10, r11⟩ := hcf.out φD wD LAD.out SD.out.inv.fz; clear hiD hvD)
                                | ((with_reducible refine (RMinus_any hD hM SB.out.inv.fz (HA9.out.mono LAB.out) VB.out hM3.out.2.2.1 hM3.out.2.2.2.1).mono ?_); rintro en wC ⟨vC, φC, rfl, hiC, hvC⟩; have hvC := hvC.le HB.out.l1 HB.out.l2; rw [hLf.out] at hvC; have SC := Lib.hid (SB.out.call hiC); have LAC := Lib.hid (LAB.out.trans hiC.le); have VC := Lib.hid hvC; obtain ⟨q0, q1, q2, q3, q4, q5, q6, q7, q8, q9, q10, q11⟩ := hcf.out φC wC LAC.out SC.out.inv.fz; clear hiC hvC)
                                | ((with_reducible refine (RTimes_any hD hM SA.out.inv.fz (HB9.out.mono LA.out) VA.out HB.out.m7 HB.out.m8 hM3.out.2.1 HB.out.m9).mono ?_); rintro en wB ⟨vB, φB, rfl, hiB, hvB⟩; have SB := Lib.hid (SA.out.call hiB); have LAB := Lib.hid (LA.out.trans hiB.le); have VB := Lib.hid hvB; obtain ⟨p0, p1, p2, p3, p4, p5, p6, p7, p8, p9, p10, p11⟩ := hcf.out φB wB LAB.out SB.out.inv.fz; clear hiB hvB)
                                | ((with_reducible refine (RWhole_any (n := (q : Int)) (by omega) (by omega) hTd.out.inv.fz).mono ?_); rintro en wA ⟨vA, φA, rfl, hiA, hvA⟩; have hvA := hvA.le (show (q : Int).natAbs ≤ n by omega) (Nat.le_refl 1); have SA := Lib.hid (hTd.out.call hiA); have LA := Lib.hid hiA.le; have VA := Lib.hid hvA; obtain ⟨o0, o1, o2, o3, o4, o5, o6, o7, o8, o9, o10, o11⟩ := hcf.out φA wA LA.out SA.out.inv.fz; clear hiA hvA)
                                | fail)
                              all_goals
                                have ST8 := Lib.hid (SE.out.setO hrt9 hlt gE aE kE cE aE' kE' cE')
                                have hr9 : Hid (FrX φE (Raw3.v ⟨gE, aE, kE, cE, aE', kE', cE'⟩) (trmX l mq c k) K3 K3) := Lib.hid (by rw [hbx.out]; exact VE.out)
                                have hWE := Lib.hid (hWn.out φE LAE _ hr9)
                                clear hcf hst x0 x1 x2 x3 x4 x5 x6 x7 x8 x9 x10 x11 y0 y1 y2 y3 y4 y5 y6 y7 y8 y9 y10 y11 o0 o1 o2 o3 o4 o5 o6 o7 o8 o9 o10 o11 p0 p1 p2 p3 p4 p5 p6 p7 p8 p9 p10 p11 q0 q1 q2 q3 q4 q5 q6 q7 q8 q9 q10 q11 r0 r1 r2 r3 r4 r5 r6 r7 r8 r9 r10 r11 s0 s1 s2 s3 s4 s5 s6 s7 s8 s9 s10 s11 z0 z1 z2 z3 z4 z5 hWn
                                go_wp2
                                go_roundw
                                case rel => exact ⟨k + 1, φE, _, by omega, by go_num, Lib.hid (hl9.out.trans LAE.out), Lib.hid (by rw [List.length_set]; exact hrt9.out), ST8, hWE⟩
                                case measure => (simp [intOf] <;> omega)
                            · have hbx := Lib.hid (trm_yes (m := mq) (l := l) HIK.out)
                              have E9b := Lib.hid (L9'.out _ _ HED.out)
                              have t0 : wr.cell? ⟨b5, 0, none⟩ = some (.bool gD) := box_cell E9b.out φ9.le_refl hT9.out.inv.fz 0
                              have t1 : wr.cell? ⟨b5, 1, none⟩ = some (.slice aD kD cD) := box_cell E9b.out φ9.le_refl hT9.out.inv.fz 1
                              have t2 : wr.cell? ⟨b5, 2, none⟩ = some (.slice aD' kD' cD') := box_cell E9b.out φ9.le_refl hT9.out.inv.fz 2
                              obtain ⟨z0, z1, z2, z3⟩ := hT9.out.num hrt9 hlt
                              have z4 := z3 (k * 3)
                              have z5 := z3 (k * 3 + 1)
                              have z6 := z3 (k * 3 + 2)
                              have ST8 := Lib.hid (hT9.out.setO hrt9 hlt gD aD kD cD aD' kD' cD')
                              have hr9 : Hid (FrX φ9 (Raw3.v ⟨gD, aD, kD, cD, aD', kD', cD'⟩) (trmX l mq c k) K3 K3) := Lib.hid (by rw [hbx.out]; exact (HVB.out.mono L9'.out).le HB.out.k3 HB.out.k3)
                              have hWE := Lib.hid (hWn.out φ9 (Lib.hid φ9.le_refl) _ hr9)
                              clear hWn z3
                              go_wp2
                              go_roundw
                              case rel => exact ⟨k + 1, φ9, _, by omega, by go_num, hl9, Lib.hid (by rw [List.length_set]; exact hrt9.out), ST8, hWE⟩
                              case measure => (simp [intOf] <;> omega)
                          · have hkn : n = k := by omega
                            subst hkn
                            have hcw9 := hT9.out.cnt hcl0
                            rw [← HCE.out] at hT9 hW9 hcw9 hlt2
                            go_wp2
                            go_roundw
                            case rel => exact ⟨r + 1, φ9, rt9, by omega, Lib.hid (L3.out.trans hl9.out), hrt9, hT9, hW9⟩
                            case measure => rw [hcw9, hcw]; rw [← HCE.out] at hle3; omega
end Go.Proofs.YtdlnhmcgnpjooaaGreatDoor

namespace Go.Proofs.YtdlnhmcgnpjooaaGreatDoor
open Go.RowKit
set_option linter.unusedVariables false
set_option linter.unusedSimpArgs false
theorem ten_add {a b i : Nat} (h1 : a ≤ 10 ^ i) (h2 : b ≤ 10 ^ i) : a + b ≤ 10 ^ (i + 1) := by rw [Nat.pow_succ]; omega
theorem ten_one {i : Nat} : 1 ≤ 10 ^ i := Nat.pow_pos (by decide)
theorem trB_p {k1 k2 kl k3 m n : Nat} (h1 : 36016 ≤ k1) (h2 : k1 + 16 ≤ k2) (hl : k1 + k2 + 5 ≤ kl) (h3 : 12 + kl + k1 ≤ k3) (hm : k3 + k2 + 1 ≤ m) (hn : n ≤ 3000) : TrB (p10 m) 1000000000000 (p10 k1) (p10 k2) (p10 kl) (p10 k3) n := by
  obtain ⟨N, hN⟩ : ∃ N, N = 1000000000000 := ⟨_, rfl⟩
  have a1 : N ≤ 10 ^ 12 := by rw [hN]; decide
  have b1 : 1 ≤ N := by rw [hN]; decide
  rw [← hN]
  clear hN
  obtain ⟨m3, hm3⟩ : ∃ m, m = 3000 := ⟨_, rfl⟩
  rw [← hm3] at hn
  have a0 : n ≤ 10 ^ 4 := by have : (10 : Nat) ^ 4 = 10000 := by decide
                             omega
  have a3 := ten_pow a1 hn
  have a5 := ten_mul (ten_mul a0 a1) a3
  have p : ∀ k, p10 k ≤ 10 ^ k := fun k => Nat.le_refl _
  have fin : ∀ {a i k : Nat}, a ≤ 10 ^ i → i ≤ k → a ≤ p10 k := fun h hi => ten_le h hi
  have c1 := ten_mul (p k1) (p k2)
  have c2 := ten_mul (ten_mul (p k2) a0) (p k1)
  have e1 : p10 k1 * (p10 k2 * 1) ≤ 10 ^ (k1 + k2) := by rw [Nat.mul_one]; exact c1
  have e2 := ten_add (ten_le e1 (show k1 + k2 ≤ k1 + k2 + 4 by omega)) (ten_le c2 (show k2 + 4 + k1 ≤ k1 + k2 + 4 by omega))
  have f1 := ten_mul a1 (ten_mul (p kl) (p k1))
  have f2 := ten_mul (ten_mul a1 (p kl)) (p k1)
  have g1 := ten_mul a1 (p k1)
  have g2 := ten_mul g1 a0
  have q1 := ten_mul (p k3) (p k2)
  have q2 := ten_mul (p k2) (p k3)
  have q3 := ten_add (ten_le q1 (show k3 + k2 ≤ k3 + k2 by omega)) (ten_le q2 (show k2 + k3 ≤ k3 + k2 by omega))
  have n1 := ten_add (ten_mul a1 a1) (ten_mul a1 a1)
  exact ⟨b1, fin a5 (by omega), fin a3 (by omega), fin e2 (by omega), fin e1 (by omega), fin f1 (by omega), fin f2 (by omega), by rw [Nat.mul_one]; exact fin g1 (by omega), fin g2 (by omega), fin (p k2) (by omega), fin a1 (by omega), fin q3 (by omega), fin q1 (by omega), fin (p k3) (by omega), fin (p kl) (by omega), fin (ten_mul (p kl) (p k1)) (by omega), fin (p k1) (by omega), fin (ten_mul (p k2) a0) (by omega), by rw [Nat.mul_one]; exact fin (p k2) (by omega), fin a0 (by omega), fin g1 (by omega), fin (ten_mul a1 (p kl)) (by omega), fin n1 (by omega), ten_one, ten_one⟩
set_option maxRecDepth 100000 in
set_option maxHeartbeats 1000000 in
theorem trims_core {M K1 K2 KL K3 : Nat} (hM : LenB M) (hD : Hid (DivOk M)) (hRD : Hid (RdivOk M)) (hM2 : p10 2000 ≤ M) {n : Nat} (hB : Hid (n ≤ 3000 → TrB M 1000000000000 K1 K2 KL K3 n)) {a : Option Addr} {cap : Nat} {l : List Psn} {w : World} {φ : Phi} (hφ : Fz φ w) (hp : PowP φ) (sl : SlV φ a cap l) (hn : Hid (l.length = n)) (hsz : Hid (∀ p ∈ l, PsnG p)) {s t : ByteArray} (hs : s.size ≤ 9223372036854775807) (ht : t.size ≤ 9223372036854775807) :
    Calls Tryz.prog 8 #[.slice a n cap, .agg #[.string s, .string t]] w (fun e w' => e = .returned (.bool true) ∧ Below w.heap.size w w') := by
  obtain ⟨L, hL⟩ : ∃ L, (trmR l s t).1 = L := ⟨_, rfl⟩
  obtain ⟨q, hq⟩ : ∃ q, (trmR l s t).2.1 = q := ⟨_, rfl⟩
  obtain ⟨F, hF⟩ : ∃ F, (trmR l s t).2.2 = F := ⟨_, rfl⟩
  have hR : Hid (trmR l s t = (L, q, F)) := Lib.hid (by rw [← hL, ← hq, ← hF])
  obtain ⟨m, hm⟩ : ∃ m, Hid (L.length = m) := ⟨_, Lib.hid rfl⟩
  have hFF : (F == F) = true := by simp
  have hqq : (q == q) = true := by simp
  obtain ⟨φb, lb, ib, eb⟩ := (Inv.start hφ).frz (.cells #[.string s, .string t] 29)
  have HI := Lib.hid ib
  have EB := Lib.hid eb
  have HS := Lib.hid (sl.mono lb)
  have HP := Lib.hid (hp.mono lb)
  clear hL hq hF hφ hp sl lb ib eb
  go_enter Tryz.func8, Tryz.ntmps8
  go_upto_region 1 with fail
  have u0 : (w.alloc (.cells #[.string s, .string t] 29)).cell? ⟨w.heap.size, 0, none⟩ = some (.string s) := box_cell EB.out φb.le_refl HI.out.fz 0
  have u1 : (w.alloc (.cells #[.string s, .string t] 29)).cell? ⟨w.heap.size, 1, none⟩ = some (.string t) := box_cell EB.out φb.le_refl HI.out.fz 1
  generalize w.alloc (.cells #[.string s, .string t] 29) = wx at *
  obtain ⟨b3, hb3⟩ : ∃ b, w.heap.size = b := ⟨_, rfl⟩
  rw [hb3] at EB u0 u1 ⊢
  clear hb3
  go_wp2_with (first
    | (go_at_call 11; (with_reducible refine (EqualR_same m _ _ L _ _ _ _ I2.out.fz (S1.out.mono L2.out) hm hm9 S2.out).mono ?_); rintro e w3 ⟨rfl, hb3⟩; have I3 := Lib.hid (I2.out.callB hb3); clear hb3)
    | (go_at_call 25; (with_reducible refine (RTrim_any hRD hM hM2 hB I1.out.fz (HP.out.mono L1.out) (HS.out.mono L1.out) hn hsz hs ht hR).mono ?_); rintro e w2 ⟨a2, c2, φ2, rfl, hi2, s2⟩; rw [show (L, q, F).1.length = m from hm.out]; have I2 := Lib.hid (I1.out.call hi2); have L2 := Lib.hid hi2.le; have S2 := Lib.hid s2; clear hi2 s2)
    | (go_at_call 22; (with_reducible refine (Trim_any hD hM hM2 hB HI.out.fz HP.out HS.out hn hsz hs ht hR).mono ?_); rintro e w1 ⟨a1, c1, φ1, rfl, hi1, s1⟩; rw [show (L, q, F).1.length = m from hm.out]; have I1 := Lib.hid (HI.out.call hi1); have L1 := Lib.hid hi1.le; have S1 := Lib.hid s1; have hm9 : m ≤ 9223372036854775807 := (by rw [← hm.out]; have h1 := s1.capn; have h2 := s1.capm; unfold maxLen at h2; simp only at h1; omega); have t0 : w1.cell? ⟨b3, 0, none⟩ = some (.string s) := box_cell EB.out hi1.le hi1.fz 0; have t1 : w1.cell? ⟨b3, 1, none⟩ = some (.string t) := box_cell EB.out hi1.le hi1.fz 1; clear hi1 s1))
  go_ret
  exact ⟨rfl, I3.out.bel⟩
theorem weightTrimsMatchSpec_walk (w : World) (φ : Phi) (hφ : Fz φ w) (hp : PowP φ) (a : Option Addr) (cap : Nat) (xs : List Psn) (s : SlV φ a cap xs) (g : xs.length * Tryz.prog.bytesOf 43 ≤ reachBytes ∧ ∀ x ∈ xs, GPsnR x) (cs : Array Value) (x : Rti) (hx : Rep.rep φ x cs.toList) (gx : StrG x.1 ∧ StrG x.2) :
    Calls Tryz.prog 8 #[.slice a xs.length cap, .agg cs] w fun e w' => e = .returned (.bool true) ∧ Below w.heap.size w w' := by
  obtain ⟨c, d, hcd, hc, hd⟩ := hx
  have e : cs = #[.string x.1, .string x.2] := by
    apply Array.toList_inj.1
    rw [hcd, hc, hd]; rfl
  rw [e]
  have hM := lenB_p (j := 200000) (k := 22223) (by decide) (by decide)
  have g1 := gx.1
  have g2 := gx.2
  unfold StrG reachBytes at g1 g2
  exact trims_core hM (Lib.hid (div_any hM)) (Lib.hid (Rdiv_any hM)) (p10_leR (by decide)) (Lib.hid (fun h => trB_p (k1 := 36020) (k2 := 36040) (kl := 72070) (k3 := 108110) (by decide) (by decide) (by decide) (by decide) (by decide) h)) hφ hp s (Lib.hid rfl) (Lib.hid (psnG_ofR g.2)) (by omega) (by omega)
end Go.Proofs.YtdlnhmcgnpjooaaGreatDoor
