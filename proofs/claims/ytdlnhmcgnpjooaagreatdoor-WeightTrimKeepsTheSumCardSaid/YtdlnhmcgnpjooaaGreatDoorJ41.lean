/- The plain law: trimmed weights keep their sum; states that last over calls; two boxes. Conditions: none beyond what the claim form gives. -/
import Derived.Test.YtdlnhmcgnpjooaaGreatDoorJT
import Derived.Test.YtdlnhmcgnpjooaaGreatDoorJ31
import Derived.Test.YtdlnhmcgnpjooaaGreatDoorJU
namespace Go.Proofs.YtdlnhmcgnpjooaaGreatDoor
open Go.RowKit
set_option linter.unusedVariables false
set_option linter.unusedSimpArgs false
section
variable {l : List Psn} {s t : ByteArray}
theorem trmR_nil {L : List Rti} {q F : Int} (h : trmR l s t = (L, q, F)) (hF : F ≠ 0) : L = [] := by
  unfold trmR at h
  split at h
  · injection h with h1 _; exact h1.symm
  · split at h
    · injection h with h1 _; exact h1.symm
    · split at h
      · injection h with h1 _; exact h1.symm
      · split at h
        · injection h with h1 _; exact h1.symm
        · split at h
          · injection h with h1 _; exact h1.symm
          · injection h with h1 h2
            injection h2 with _ h3
            exact absurd h3.symm hF
theorem trmR_good {L : List Rti} {q : Int} (h : trmR l s t = (L, q, 0)) : pplF l = 0 ∧ shoF s t = 0 ∧ 1 ≤ ratX s t ∧ L.length = l.length ∧ ∀ k, k < l.length → ratF (L.getD k rti0).1 (L.getD k rti0).2 = 0 ∧ ratX (L.getD k rti0).1 (L.getD k rti0).2 = trmX l (ratX s t) (trC l (ratX s t)) k := by
  unfold trmR at h
  split at h
  · next hne => injection h with _ h2; injection h2 with _ h3; exact absurd h3 hne
  · next h1 =>
    split at h
    · next hne => injection h with _ h2; injection h2 with _ h3; exact absurd h3 hne
    · next h2 =>
      split at h
      · injection h with _ h3; injection h3 with _ h4; exact absurd h4 (by decide)
      · next h3 =>
        have e1 : pplF l = 0 := by simpa using h1
        have e2 : shoF s t = 0 := by simpa using h2
        have e3 : 1 ≤ ratX s t := Rat.not_lt.1 h3
        split at h
        · next h4 =>
          injection h with h5 _
          exact ⟨e1, e2, e3, by rw [← h5, h4]; rfl, fun k hk => absurd hk (by rw [h4]; exact Nat.not_lt_zero k)⟩
        · next h4 =>
          split at h
          · next hne => injection h with _ h5; injection h5 with _ h6; exact absurd h6 hne
          · next h5 =>
            injection h with h6 _
            have e5 : (shtR ((List.range l.length).map (trmX l (ratX s t) (trC l (ratX s t))))).2 = 0 := by simpa using h5
            have e6 : shtR ((List.range l.length).map (trmX l (ratX s t) (trC l (ratX s t)))) = (L, 0) := by rw [← h6, ← e5]
            obtain ⟨h7, h8⟩ := shtR_back e6
            rw [List.length_map, List.length_range] at h7 h8
            refine ⟨e1, e2, e3, h7, fun k hk => ?_⟩
            have h9 := h8 k hk
            rw [range_getD _ hk] at h9
            exact h9
variable {m : Rat}
/-- What a trimmed weight gains. -/
noncomputable def tgnQ (l : List Psn) (m : Rat) (i : Nat) : Rat := trmX l m (trC l m) i - wgtQ l i
theorem tgn_zero (hw : ∀ j, j < l.length → 0 < wgtQ l j) (hm : 1 ≤ m) : sumF (tgnQ l m) l.length = 0 := by
  by_cases hn : 0 < l.length
  · have h1 : sumF (tgnQ l m) l.length = sumF (trmX l m (trC l m)) l.length - sumF (wgtQ l) l.length := sumF_sub _ _ _
    have h2 := (trS_good (l := l) (m := m) hw hn hm l.length).sum
    rw [h1]
    show sumF (trmX l m (trS l m l.length)) l.length - sumF (wgtQ l) l.length = 0
    rw [h2]
    show totQ l - totQ l = 0
    grind
  · have : l.length = 0 := by omega
    rw [this]; rfl
theorem tgn_step (i : Nat) : sumF (tgnQ l m) (i + 1) = sumF (tgnQ l m) i + trmX l m (trC l m) i - wgtQ l i := by
  show sumF (tgnQ l m) i + (trmX l m (trC l m) i - wgtQ l i) = _
  grind
theorem tle_cmp (hw : ∀ j, j < l.length → 0 < wgtQ l j) (hn : 0 < l.length) (hm : 1 ≤ m) {i : Nat} (hi : i < l.length) : ¬ 0 < cmpQ (trmX l m (trC l m) i * ((l.length : Int) : Rat)) (m * totQ l) := by
  rw [cmpQ_pos, ← bnd_n hn]
  have h1 := trm_le (trC_end hw hn hm) hi
  have h2 : (0 : Rat) ≤ ((l.length : Int) : Rat) := by
    have : (0 : Int) ≤ (l.length : Int) := by omega
    exact_mod_cast this
  exact Rat.not_lt.2 (Rat.mul_le_mul_of_nonneg_right h1 h2)
theorem tor_cmp (hw : ∀ j, j < l.length → 0 < wgtQ l j) (hn : 0 < l.length) (hm : 1 ≤ m) {i j : Nat} (hi : i < l.length) (hj : j < l.length) : 0 ≤ cmpQ (wgtQ l i) (wgtQ l j) * cmpQ (trmX l m (trC l m) i) (trmX l m (trC l m) j) :=
  (trS_good (l := l) (m := m) hw hn hm l.length).order (trC_end hw hn hm) hi hj
theorem cmpQ_bd (x y : Rat) : -1 ≤ cmpQ x y ∧ cmpQ x y ≤ 1 := by
  unfold cmpQ
  split
  · exact ⟨by decide, by decide⟩
  · split
    · exact ⟨by decide, by decide⟩
    · exact ⟨by decide, by decide⟩
end
/-- A state that lasts over calls. -/
structure Sta (P : Phi → World → Prop) : Prop where
  fz : ∀ {φ W}, P φ W → Fz φ W
  call : ∀ {φ W φ' w'}, P φ W → Inv W.heap.size W φ φ' w' → P φ' w'
section
variable {P : Phi → World → Prop} {φ : Phi} {W : World} {M : Nat}
def FrS (P : Phi → World → Prop) (φ : Phi) (x : Rat) (N D : Nat) (e : Ending) (w' : World) : Prop :=
  ∃ (g : Bool) (a1 : Option Addr) (k1 c1 : Nat) (a2 : Option Addr) (k2 c2 : Nat) (φ' : Phi), e = .returned (.agg #[.bool g, .slice a1 k1 c1, .slice a2 k2 c2]) ∧ Hid (P φ' w') ∧ Hid (φ.le φ') ∧ Hid (FrX φ' (.agg #[.bool g, .slice a1 k1 c1, .slice a2 k2 c2]) x N D)
theorem FrS.of (hP : Sta P) {y : Rat} {N D N' D' : Nat} (hN : N ≤ N') (hDD : D ≤ D') (h : Hid (P φ W)) {en : Ending} {w' : World} (hp : FrXP y N D φ W en w') : FrS P φ y N' D' en w' := by
  obtain ⟨v, φ', rfl, hi, hv⟩ := hp
  have hv := hv.le hN hDD
  obtain ⟨g, n, d, k1, k2, a1, c1, a2, c2, rfl, _⟩ := hv.open
  exact ⟨g, a1, k1, c1, a2, k2, c2, φ', rfl, Lib.hid (hP.call h.out hi), Lib.hid hi.le, Lib.hid hv⟩
theorem RFracOf_P (hP : Sta P) {s t : ByteArray} (h : Hid (RatOk s t)) {x : Rat} (hx : Hid (ratX s t = x)) {N D : Nat} (hB : Hid (dV (bodyB s).data.toList ≤ N ∧ dV t.data.toList ≤ D)) (hS : Hid (P φ W)) :
    Calls Tryz.prog 19 #[.agg #[.string s, .string t]] W (FrS P φ x N D) :=
  (RFracOf_any h.out (hP.fz hS.out)).mono (fun en w' hp => by rw [hx.out] at hp; exact FrS.of hP hB.out.1 hB.out.2 hS hp)
theorem RWhole_P (hP : Sta P) {q n : Nat} (hq : Hid (q ≤ n ∧ n ≤ 3000)) (hS : Hid (P φ W)) :
    Calls Tryz.prog 17 #[.int .i64 (q : Int)] W (FrS P φ (((q : Nat) : Int) : Rat) n 1) :=
  (RWhole_any (n := (q : Int)) (by omega) (by have := hq.out; omega) (hP.fz hS.out)).mono (fun en w' hp => FrS.of hP (by have := hq.out; omega) (Nat.le_refl _) hS hp)
theorem RPlus_P (hP : Sta P) (hD : Hid (RdivOk M)) (hM : LenB M) {v1 v2 : Value} {x y : Rat} {N1 D1 N2 D2 : Nat} {ψ : Phi} (h1 : Hid (FrX ψ v1 x N1 D1)) (hl : Hid (ψ.le φ)) (h2 : Hid (FrX φ v2 y N2 D2)) (hB : Hid (N1 * D2 + N2 * D1 ≤ M ∧ D1 * D2 ≤ M)) {N D : Nat} (hN : Hid (N1 * D2 + N2 * D1 ≤ N ∧ D1 * D2 ≤ D)) (hS : Hid (P φ W)) :
    Calls Tryz.prog 18 #[v1, v2] W (FrS P φ (x + y) N D) :=
  (RPlus_any hD hM (hP.fz hS.out) (h1.out.mono hl.out) h2.out hB.out.1 hB.out.2).mono (fun en w' hp => FrS.of hP hN.out.1 hN.out.2 hS hp)
theorem RMinus_P (hP : Sta P) (hD : Hid (RdivOk M)) (hM : LenB M) {v1 v2 : Value} {x y : Rat} {N1 D1 N2 D2 : Nat} {ψ : Phi} (h1 : Hid (FrX ψ v1 x N1 D1)) (hl : Hid (ψ.le φ)) (h2 : Hid (FrX φ v2 y N2 D2)) (hB : Hid (N1 * D2 + N2 * D1 ≤ M ∧ D1 * D2 ≤ M)) {N D : Nat} (hN : Hid (N1 * D2 + N2 * D1 ≤ N ∧ D1 * D2 ≤ D)) (hS : Hid (P φ W)) :
    Calls Tryz.prog 20 #[v1, v2] W (FrS P φ (x - y) N D) :=
  (RMinus_any hD hM (hP.fz hS.out) (h1.out.mono hl.out) h2.out hB.out.1 hB.out.2).mono (fun en w' hp => FrS.of hP hN.out.1 hN.out.2 hS hp)
theorem RTimes_P (hP : Sta P) (hD : Hid (RdivOk M)) (hM : LenB M) {v1 v2 : Value} {x y : Rat} {N1 D1 N2 D2 : Nat} {ψ ψ2 : Phi} (h1 : Hid (FrX ψ v1 x N1 D1)) (hl : Hid (ψ.le φ)) (h2 : Hid (FrX ψ2 v2 y N2 D2)) (hl2 : Hid (ψ2.le φ)) (hB : Hid (N1 * N2 ≤ M ∧ D1 * D2 ≤ M ∧ N1 ≤ M ∧ N2 ≤ M)) {N D : Nat} (hN : Hid (N1 * N2 ≤ N ∧ D1 * D2 ≤ D)) (hS : Hid (P φ W)) :
    Calls Tryz.prog 23 #[v1, v2] W (FrS P φ (x * y) N D) :=
  (RTimes_any hD hM (hP.fz hS.out) (h1.out.mono hl.out) (h2.out.mono hl2.out) hB.out.1 hB.out.2.1 hB.out.2.2.1 hB.out.2.2.2).mono (fun en w' hp => FrS.of hP hN.out.1 hN.out.2 hS hp)
theorem ROrder_P (hP : Sta P) (hD : Hid (RdivOk M)) (hM : LenB M) {v1 v2 : Value} {x y : Rat} {N1 D1 N2 D2 : Nat} {ψ ψ2 : Phi} (h1 : Hid (FrX ψ v1 x N1 D1)) (hl : Hid (ψ.le φ)) (h2 : Hid (FrX ψ2 v2 y N2 D2)) (hl2 : Hid (ψ2.le φ)) (hB : Hid (N1 * D2 + N2 * D1 ≤ M ∧ D1 * D2 ≤ M)) {q : Int} (hq : Hid (cmpQ x y = q)) (hS : Hid (P φ W)) :
    Calls Tryz.prog 24 #[v1, v2] W (fun e w' => ∃ φ', e = .returned (.int .i64 q) ∧ Hid (P φ' w') ∧ Hid (φ.le φ')) :=
  (ROrder_any hD hM (hP.fz hS.out) (h1.out.mono hl.out) (h2.out.mono hl2.out) hB.out.1 hB.out.2 hq).mono (fun en w' hp => ⟨φ, hp.1, Lib.hid (hP.call hS.out ((Inv.start (hP.fz hS.out)).callB hp.2)), Lib.hid φ.le_refl⟩)
end
/-- Two boxes. -/
structure DbS (E : TypeId) (w0 : World) (φ0 φ : Phi) (b1 : Nat) (cs1 : Array Value) (b2 : Nat) (cs2 : Array Value) (W : World) : Prop where
  a : RsSt w0 φ0 φ b1 cs1 E W
  d : RsSt w0 φ0 φ b2 cs2 E W
  n : b1 ≠ b2
section
variable {E : TypeId} {w0 W w' : World} {φ0 φ φ' : Phi} {b1 b2 : Nat} {cs1 cs2 : Array Value}
theorem DbS.call (h : DbS E w0 φ0 φ b1 cs1 b2 cs2 W) (hi : Inv W.heap.size W φ φ' w') : DbS E w0 φ0 φ' b1 cs1 b2 cs2 w' := ⟨h.a.call hi, h.d.call hi, h.n⟩
theorem DbS.callB (h : DbS E w0 φ0 φ b1 cs1 b2 cs2 W) (hb : Below W.heap.size W w') : DbS E w0 φ0 φ b1 cs1 b2 cs2 w' := ⟨h.a.callB hb, h.d.callB hb, h.n⟩
theorem DbS.drew (h : DbS E w0 φ0 φ b1 cs1 b2 cs2 W) : DbS E w0 φ0 φ b1 cs1 b2 cs2 W.drew := h.callB (bdrewN (Below.refl _ W) 1)
theorem DbS.sta (E : TypeId) (w0 : World) (φ0 : Phi) (b1 : Nat) (cs1 : Array Value) (b2 : Nat) (cs2 : Array Value) : Sta (fun φ W => DbS E w0 φ0 φ b1 cs1 b2 cs2 W) := ⟨fun h => h.a.inv.fz, fun h hi => h.call hi⟩
theorem DbS.put1 {c0 c1 c2 : Value} (h : DbS E w0 φ0 φ b1 #[c0, c1, c2] b2 cs2 W) (u0 u1 u2 : Value) : DbS E w0 φ0 φ b1 #[u0, u1, u2] b2 cs2 (((W.setCell ⟨b1, 0, none⟩ u0).setCell ⟨b1, 1, none⟩ u1).setCell ⟨b1, 2, none⟩ u2) :=
  ⟨h.a.put3 u0 u1 u2, ((h.d.setNe h.a.l h.a.f h.n 0 u0).setNe h.a.l h.a.f h.n 1 u1).setNe h.a.l h.a.f h.n 2 u2, h.n⟩
theorem DbS.put2 {c0 c1 c2 : Value} (h : DbS E w0 φ0 φ b1 cs1 b2 #[c0, c1, c2] W) (u0 u1 u2 : Value) : DbS E w0 φ0 φ b1 cs1 b2 #[u0, u1, u2] (((W.setCell ⟨b2, 0, none⟩ u0).setCell ⟨b2, 1, none⟩ u1).setCell ⟨b2, 2, none⟩ u2) :=
  ⟨((h.a.setNe h.d.l h.d.f (Ne.symm h.n) 0 u0).setNe h.d.l h.d.f (Ne.symm h.n) 1 u1).setNe h.d.l h.d.f (Ne.symm h.n) 2 u2, h.d.put3 u0 u1 u2, h.n⟩
theorem DbS.new (hi : Inv w0.heap.size w0 φ0 φ W) (cs1 cs2 : Array Value) (E : TypeId) : DbS E w0 φ0 φ W.heap.size cs1 (W.heap.size + 1) cs2 ((W.alloc (.cells cs1 E)).alloc (.cells cs2 E)) := by
  have a := RsSt.start hi cs1 E
  have o := RsSt.start a.inv cs2 E
  rw [alloc_sz] at o
  exact ⟨a.callB ((Below.refl _ _).alloc (Nat.le_refl _) _), o, by omega⟩
/-- The first box frozen. -/
theorem DbS.frz (h : DbS E w0 φ0 φ b1 cs1 b2 cs2 W) : ∃ φ', φ.le φ' ∧ Inv w0.heap.size w0 φ0 φ' W ∧ φ' b1 = some (.cells cs1 E) ∧ φ' b2 = some (.cells cs2 E) := by
  obtain ⟨φ1, l1, i1, e1, f1⟩ := h.a.inv.frzAt h.a.k h.a.l
  obtain ⟨φ2, l2, i2, e2, f2⟩ := i1.frzAt h.d.k h.d.l
  exact ⟨φ2, l1.trans l2, i2, l2 _ _ e1, e2⟩
end
theorem Inv.sta (w0 : World) (φ0 : Phi) : Sta (fun φ W => Inv w0.heap.size w0 φ0 φ W) := ⟨fun h => h.fz, fun h hi => h.call hi⟩
end Go.Proofs.YtdlnhmcgnpjooaaGreatDoor
