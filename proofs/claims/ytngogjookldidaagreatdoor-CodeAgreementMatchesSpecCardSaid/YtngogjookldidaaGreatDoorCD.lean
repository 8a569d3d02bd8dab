/- Exact numbers of the reference over a state that lasts; the plain law of the reference's Kappa. The walk of Kappa, the reference's side. Conditions: the library's table of powers of ten reads as it was laid. Conditions: none beyond what the claim form gives. -/
import Derived.Test.YtngogjookldidaaGreatDoorCC
import Derived.Test.YtngogjookldidaaGreatDoorB23
import Derived.Test.YtngogjookldidaaGreatDoorBB
namespace Go.Proofs.YtngogjookldidaaGreatDoor
open Go.RowKit
set_option linter.unusedVariables false
set_option linter.unusedSimpArgs false
/-- A state that lasts over calls. -/
structure StC (P : Phi → World → Prop) : Prop where
  fz : ∀ {φ W}, P φ W → Fz φ W
  call : ∀ {φ W φ' w'}, P φ W → Inv W.heap.size W φ φ' w' → P φ' w'
section
variable {P : Phi → World → Prop} {φ : Phi} {W : World} {M : Nat}
theorem StC.callB (hP : StC P) (h : P φ W) {w' : World} (hb : Below W.heap.size W w') : P φ w' := hP.call h ((Inv.start (hP.fz h)).callB hb)
def FrC (P : Phi → World → Prop) (φ : Phi) (x : Rat) (N D : Nat) (e : Ending) (w' : World) : Prop :=
  ∃ (g : Bool) (a1 : Option Addr) (k1 c1 : Nat) (a2 : Option Addr) (k2 c2 : Nat) (φ' : Phi), e = .returned (.agg #[.bool g, .slice a1 k1 c1, .slice a2 k2 c2]) ∧ Hid (P φ' w') ∧ Hid (φ.le φ') ∧ Hid (FrX φ' (.agg #[.bool g, .slice a1 k1 c1, .slice a2 k2 c2]) x N D)
theorem FrC.of (hP : StC P) {y : Rat} {N D N' D' : Nat} (hN : N ≤ N') (hDD : D ≤ D') (h : Hid (P φ W)) {en : Ending} {w' : World} (hp : FrXP y N D φ W en w') : FrC P φ y N' D' en w' := by
  obtain ⟨v, φ', rfl, hi, hv⟩ := hp
  obtain ⟨g, n, d, a1, c1, a2, c2, rfl, s1, s2, h0, h1, h2, h3⟩ := hv
  exact ⟨g, a1, _, c1, a2, _, c2, φ', rfl, Lib.hid (hP.call h.out hi), Lib.hid hi.le, Lib.hid ⟨g, n, d, a1, c1, a2, c2, rfl, s1, s2, h0, Nat.le_trans h1 hN, Nat.le_trans h2 hDD, h3⟩⟩
theorem RPart_C (hP : StC P) {a b N D : Nat} (hq : Hid (a ≤ N ∧ b ≤ D ∧ 0 < b ∧ N < 9223372036854775808 ∧ D < 9223372036854775808)) (hS : Hid (P φ W)) :
    Calls Tryz.prog 22 #[.int .i64 (a : Int), .int .i64 (b : Int)] W (FrC P φ (mkRat a b) N D) :=
  (RPart_any (by have := hq.out; omega) (by have := hq.out; omega) hq.out.2.2.1 (hP.fz hS.out)).mono (fun en w' hp => FrC.of hP hq.out.1 hq.out.2.1 hS hp)
theorem RWhole_C (hP : StC P) {n : Int} {N : Nat} (hq : Hid (n.natAbs ≤ N ∧ N < 9223372036854775808)) (hS : Hid (P φ W)) :
    Calls Tryz.prog 20 #[.int .i64 n] W (FrC P φ (n : Rat) N 1) :=
  (RWhole_any (n := n) (by have := hq.out; omega) (by have := hq.out; omega) (hP.fz hS.out)).mono (fun en w' hp => FrC.of hP hq.out.1 (Nat.le_refl _) hS hp)
theorem RPlus_C (hP : StC P) (hD : Hid (RdivOk M)) (hM : LenB M) {v1 v2 : Value} {x y : Rat} {N1 D1 N2 D2 : Nat} {ψ ψ2 : Phi} (h1 : Hid (FrX ψ v1 x N1 D1)) (hl : Hid (ψ.le φ)) (h2 : Hid (FrX ψ2 v2 y N2 D2)) (hl2 : Hid (ψ2.le φ)) (hB : Hid (N1 * D2 + N2 * D1 ≤ M ∧ D1 * D2 ≤ M)) {N D : Nat} (hN : Hid (N1 * D2 + N2 * D1 ≤ N ∧ D1 * D2 ≤ D)) (hS : Hid (P φ W)) :
    Calls Tryz.prog 33 #[v1, v2] W (FrC P φ (x + y) N D) :=
  (RPlus_any hD hM (hP.fz hS.out) (h1.out.mono hl.out) (h2.out.mono hl2.out) hB.out.1 hB.out.2).mono (fun en w' hp => FrC.of hP hN.out.1 hN.out.2 hS hp)
theorem RMinus_C (hP : StC P) (hD : Hid (RdivOk M)) (hM : LenB M) {v1 v2 : Value} {x y : Rat} {N1 D1 N2 D2 : Nat} {ψ ψ2 : Phi} (h1 : Hid (FrX ψ v1 x N1 D1)) (hl : Hid (ψ.le φ)) (h2 : Hid (FrX ψ2 v2 y N2 D2)) (hl2 : Hid (ψ2.le φ)) (hB : Hid (N1 * D2 + N2 * D1 ≤ M ∧ D1 * D2 ≤ M)) {N D : Nat} (hN : Hid (N1 * D2 + N2 * D1 ≤ N ∧ D1 * D2 ≤ D)) (hS : Hid (P φ W)) :
    Calls Tryz.prog 23 #[v1, v2] W (FrC P φ (x - y) N D) :=
  (RMinus_any hD hM (hP.fz hS.out) (h1.out.mono hl.out) (h2.out.mono hl2.out) hB.out.1 hB.out.2).mono (fun en w' hp => FrC.of hP hN.out.1 hN.out.2 hS hp)
theorem RTimes_C (hP : StC P) (hD : Hid (RdivOk M)) (hM : LenB M) {v1 v2 : Value} {x y : Rat} {N1 D1 N2 D2 : Nat} {ψ ψ2 : Phi} (h1 : Hid (FrX ψ v1 x N1 D1)) (hl : Hid (ψ.le φ)) (h2 : Hid (FrX ψ2 v2 y N2 D2)) (hl2 : Hid (ψ2.le φ)) (hB : Hid (N1 * N2 ≤ M ∧ D1 * D2 ≤ M ∧ N1 ≤ M ∧ N2 ≤ M)) {N D : Nat} (hN : Hid (N1 * N2 ≤ N ∧ D1 * D2 ≤ D)) (hS : Hid (P φ W)) :
    Calls Tryz.prog 34 #[v1, v2] W (FrC P φ (x * y) N D) :=
  (RTimes_any hD hM (hP.fz hS.out) (h1.out.mono hl.out) (h2.out.mono hl2.out) hB.out.1 hB.out.2.1 hB.out.2.2.1 hB.out.2.2.2).mono (fun en w' hp => FrC.of hP hN.out.1 hN.out.2 hS hp)
theorem ROver_C (hP : StC P) (hD : Hid (RdivOk M)) (hM : LenB M) {v1 v2 : Value} {x y : Rat} {N1 D1 N2 D2 : Nat} {ψ ψ2 : Phi} (h1 : Hid (FrX ψ v1 x N1 D1)) (hl : Hid (ψ.le φ)) (h2 : Hid (FrX ψ2 v2 y N2 D2)) (hl2 : Hid (ψ2.le φ)) (hy : Hid (y ≠ 0)) (hB : Hid (N1 * D2 ≤ M ∧ D1 * N2 ≤ M ∧ D2 ≤ M)) {N D : Nat} (hN : Hid (N1 * D2 ≤ N ∧ D1 * N2 ≤ D)) (hS : Hid (P φ W)) :
    Calls Tryz.prog 24 #[v1, v2] W (FrC P φ (x / y) N D) :=
  (ROver_any hD hM (hP.fz hS.out) (h1.out.mono hl.out) (h2.out.mono hl2.out) hy.out hB.out.1 hB.out.2.1 hB.out.2.2).mono (fun en w' hp => FrC.of hP hN.out.1 hN.out.2 hS hp)
theorem RRatio_C (hP : StC P) (hD : Hid (RdivOk M)) (hM : LenB M) {v1 : Value} {x : Rat} {N1 D1 : Nat} {ψ ψp : Phi} (h1 : Hid (FrX ψ v1 x N1 D1)) (hl : Hid (ψ.le φ)) (hp : Hid (PowP ψp)) (hlp : Hid (ψp.le φ)) (hB : Hid (N1 ≤ M ∧ D1 ≤ M)) {S T : ByteArray} {F : Int} (hR : Hid (ratR x = (S, T, F))) (hS : Hid (P φ W)) :
    Calls Tryz.prog 21 #[v1] W (fun e w' => e = .returned (.tuple #[.agg #[.string S, .string T], .int .i64 F]) ∧ Hid (P φ w')) :=
  (RRatio_any hD hM (hP.fz hS.out) (hp.out.mono hlp.out) (h1.out.mono hl.out) hB.out.1 hB.out.2 hR).mono (fun en w' h => ⟨h.1, Lib.hid (hP.callB hS.out h.2)⟩)
end
theorem sumN_snoc {κ : Type} (S : List κ) (k : κ) (f : κ → Nat) : sumN (S ++ [k]) f = sumN S f + f k := by
  unfold sumN; rw [List.map_append, List.sum_append]; simp
/-- The sum over the codes of a frame. -/
theorem chnc_frame {l : List Nod} {n : Nat} (h : FrOk l n) {L : List Pr} (hL : ∀ p ∈ L, p.1 ∈ l.map (·.1) ∧ p.2 ∈ l.map (·.1)) : chS L (l.map (·.1)) = chnc L :=
  chnc_sum ((cods_rise h).imp (fun {a b} h e => by omega)) (fun q hq => (hL q hq).1)
/-- The quotient that the reference works out is the program's. -/
theorem kap_quot {s n c : Nat} (hn : n ≠ 0) (hc : c ≠ n * n) : (mkRat s n - mkRat c (n * n)) / (((1 : Int) : Rat) - mkRat c (n * n)) = ((((s * n : Nat) : Int) - (c : Int) : Int) : Rat) / ((((n * n : Nat) : Int) - (c : Int) : Int) : Rat) := by
  have hn' : ((n : Int) : Rat) ≠ 0 := by exact_mod_cast hn
  have hnn : (((n * n : Nat) : Int) : Rat) ≠ 0 := by
    have : n * n ≠ 0 := Nat.mul_ne_zero hn hn
    exact_mod_cast this
  have hd : ((((n * n : Nat) : Int) - (c : Int) : Int) : Rat) ≠ 0 := by
    have : ((n * n : Nat) : Int) - (c : Int) ≠ 0 := by omega
    exact_mod_cast this
  have e1 : mkRat (s : Int) n = ((s : Int) : Rat) / ((n : Int) : Rat) := by rw [Rat.mkRat_eq_div]; rfl
  have e2 : mkRat (c : Int) (n * n) = ((c : Int) : Rat) / (((n * n : Nat) : Int) : Rat) := by rw [Rat.mkRat_eq_div]; rfl
  rw [e1, e2]
  have e3 : ((((s * n : Nat) : Int) - (c : Int) : Int) : Rat) = ((s : Int) : Rat) * ((n : Int) : Rat) - ((c : Int) : Rat) := by push_cast; rfl
  have e4 : ((((n * n : Nat) : Int) - (c : Int) : Int) : Rat) = ((n : Int) : Rat) * ((n : Int) : Rat) - ((c : Int) : Rat) := by push_cast; rfl
  have e5 : (((n * n : Nat) : Int) : Rat) = ((n : Int) : Rat) * ((n : Int) : Rat) := by push_cast; rfl
  rw [e4] at hd
  rw [e5] at hnn
  rw [e3, e4, e5]
  generalize ((s : Int) : Rat) = S at *
  generalize ((c : Int) : Rat) = C at *
  generalize ((n : Int) : Rat) = N at *
  have h1 : ((1 : Int) : Rat) = 1 := rfl
  rw [h1]
  clear e1 e2 e3 e4 e5 h1
  have k1 : (N * N)⁻¹ * (N * N) = 1 := Rat.inv_mul_cancel _ hnn
  have hne : 1 - C / (N * N) ≠ 0 := fun e => hd (by
    have h2 : (1 - C / (N * N)) * (N * N) = N * N - C := by rw [Rat.div_def]; grind
    rw [e, Rat.zero_mul] at h2
    exact h2.symm)
  grind
theorem kap_ne {n c : Nat} (hn : n ≠ 0) (hc : c ≠ n * n) : ((1 : Int) : Rat) - mkRat c (n * n) ≠ 0 := by
  intro e
  have hnn : n * n ≠ 0 := Nat.mul_ne_zero hn hn
  have h2 : mkRat (c : Int) (n * n) = ((1 : Int) : Rat) := by grind
  have h3 : mkRat (c : Int) (n * n) = mkRat 1 1 := by rw [h2]; rfl
  rw [Rat.mkRat_eq_iff hnn (by decide)] at h3
  omega
end Go.Proofs.YtngogjookldidaaGreatDoor

namespace Go.Proofs.YtngogjookldidaaGreatDoor
open Go.RowKit
set_option linter.unusedVariables false
set_option linter.unusedSimpArgs false
/-- A result's cell, while what is frozen grows. -/
structure KrA (w0 : World) (b8 : Nat) (φ : Phi) (W : World) : Prop where
  bel : Below w0.heap.size w0 W
  fz : Fz φ W
  k : Blk W b8 #[.string ⟨#[]⟩, .string ⟨#[]⟩] 32
  lo : w0.heap.size ≤ b8
/-- .. and a number in a box. -/
structure KrB (w0 : World) (b8 b23 : Nat) (cs : Array Value) (φ : Phi) (W : World) : Prop where
  a : KrA w0 b8 φ W
  d : Blk W b23 cs 59
section
variable {w0 W w' : World} {b8 b23 : Nat} {cs : Array Value} {φ φ' : Phi}
theorem KrA.call (h : KrA w0 b8 φ W) (hi : Inv W.heap.size W φ φ' w') : KrA w0 b8 φ' w' := ⟨h.bel.trans (hi.bel.mono h.bel.size), hi.fz, h.k.callB hi.bel, h.lo⟩
theorem KrA.callB (h : KrA w0 b8 φ W) (hb : Below W.heap.size W w') : KrA w0 b8 φ w' := h.call ((Inv.start h.fz).callB hb)
theorem KrA.alloc (h : KrA w0 b8 φ W) (o : Obj) : KrA w0 b8 φ (W.alloc o) := h.callB ((Below.refl _ _).alloc (Nat.le_refl _) o)
theorem KrA.sta (w0 : World) (b8 : Nat) : StC (fun φ W => KrA w0 b8 φ W) := ⟨fun h => h.fz, fun h hi => h.call hi⟩
theorem KrB.call (h : KrB w0 b8 b23 cs φ W) (hi : Inv W.heap.size W φ φ' w') : KrB w0 b8 b23 cs φ' w' := ⟨h.a.call hi, h.d.callB hi.bel⟩
theorem KrB.sta (w0 : World) (b8 b23 : Nat) (cs : Array Value) : StC (fun φ W => KrB w0 b8 b23 cs φ W) := ⟨fun h => h.a.fz, fun h hi => h.call hi⟩
theorem KrB.drew (h : KrB w0 b8 b23 cs φ W) : KrB w0 b8 b23 cs φ W.drew := h.call ((Inv.start h.a.fz).callB (bdrewN (Below.refl _ _) 1))
end
set_option maxRecDepth 100000 in
set_option maxHeartbeats 8000000 in
theorem RKappa_any {M : Nat} (hD : Hid (RdivOk M)) (hM : LenB M) (hM1 : 1000000000000000000000000000000000000000 ≤ M) {w : World} {a : Option Addr} {c n : Nat} {l : List Nod} {φ : Phi} (hφ : Fz φ w) (hp : PowP φ) (s : SlV φ a c l) (hn : Hid (l.length = n)) (hm : n ≤ 9223372036854775807) {ac : Option Addr} {cc nc : Nat} {cs : List Cdg} (sc : SlV φ ac cc cs) (hnc : Hid (cs.length = nc)) (hmc : nc ≤ 9223372036854775807) (x y : Int) {S T : ByteArray} {F : Int} (hR : Hid (kapF l cs x y = (S, T, F))) :
    Calls Tryz.prog 8 #[.slice a n c, .slice ac nc cc, .int .i64 x, .int .i64 y] w (fun e w' => e = .returned (.tuple #[.agg #[.string S, .string T], .int .i64 F]) ∧ Below w.heap.size w w') := by
  have hK0 : Hid (KrA w w.heap.size φ (w.alloc (.cells #[.string ⟨#[]⟩, .string ⟨#[]⟩] 32))) := Lib.hid ⟨(Below.refl _ _).alloc (Nat.le_refl _) _, hφ.alloc _, Blk.new _ _ _, Nat.le_refl _⟩
  have HPW := Lib.hid hp
  have HM1 := Lib.hid hM1
  clear hM1
  obtain ⟨eb, heb⟩ : ∃ q, Hid (bthF l cs x y = q) := ⟨_, Lib.hid rfl⟩
  by_cases h0 : eb = 0
  case neg =>
    have hg : ((eb : Int) != 0) = true := by simp [h0]
    have hR2 : Hid ((S, T, F) = (⟨#[]⟩, ⟨#[]⟩, eb)) := Lib.hid (by rw [← hR.out, kapF, heb.out, if_pos h0])
    clear h0
    go_enter Tryz.func8, Tryz.ntmps8
    go_wp2_with fail
    refine (RcheckPair_any hK0.out.fz s hn hm sc hnc hmc x y).mono ?_
    rintro e w1 ⟨rfl, hb1⟩
    rw [heb.out]
    have H1 := Lib.hid (hK0.out.callB hb1)
    clear hb1 hK0
    generalize hb8 : w.heap.size = b8 at *
    have r0 : w1.cell? ⟨b8, 0, none⟩ = some (.string ⟨#[]⟩) := H1.out.k.cell 0
    have r1' : w1.cell? ⟨b8, 1, none⟩ = some (.string ⟨#[]⟩) := H1.out.k.cell 1
    have r2' := H1.out.k.frz 0
    have r3' := H1.out.k.frz 1
    go_wp2
    have hZ := Lib.hid ((H1.out.k.set 0 (.string ⟨#[]⟩)).set 1 (.string ⟨#[]⟩))
    have e0 : _ = some (Value.string ⟨#[]⟩) := hZ.out.cell 0
    have e1 : _ = some (Value.string ⟨#[]⟩) := hZ.out.cell 1
    (try simp only [Exit.inBlock, Exit.then])
    refine bodyPost_ret (v := .tuple #[.agg #[.string ⟨#[]⟩, .string ⟨#[]⟩], .int .i64 eb]) (by simp [results, Tryz.results8, go_sem, e0, e1]) rfl ?_
    have h := hR2.out
    cases h
    subst hb8
    exact ⟨rfl, Below_grown (Below_grown H1.out.bel (grown_setC _ _ _ _) H1.out.lo) (grown_setC _ _ _ _) H1.out.lo⟩
  subst h0
  have hfc := Lib.hid (bth_frc heb.out)
  have hok := Lib.hid (frc_ok hfc.out)
  rw [hn.out] at hok
  have hn6 : n ≤ 600 := hok.out.pos.2
  have hn2 : nc ≤ 20000 := (cdg_ok hnc hfc.out).1
  have hpos : Hid (∀ x ∈ cs, 0 < x.2.2) := Lib.hid (fun x hx => by
    obtain ⟨i, hi, rfl⟩ := List.getElem_of_mem hx
    have h1 := (cdg_ok (Lib.hid rfl) hfc.out).2.2 i hi
    rw [getD_elem0 _ _ _ hi] at h1
    obtain ⟨j, hj⟩ := Option.isSome_iff_exists.1 h1
    obtain ⟨h2, h3⟩ := ixTo_some hj
    have := hok.out.rng j (by rw [← hn.out]; exact h2)
    omega)
  have hcd := Lib.hid (prs_cod hfc.out hnc.out x y)
  have hR2 : Hid (kapR (prsL (grpK cs nc) x y) = (S, T, F)) := Lib.hid (by rw [← hR.out, kapF, heb.out, if_neg (by simp), hnc.out])
  have hLl : (prsL (grpK cs nc) x y).length ≤ 20000 := by
    have h1 := prsL_len (grpK cs nc) x y
    have h2 := (grpK_ok cs nc (by rw [hnc.out]; omega)).2.1
    omega
  obtain ⟨L, hLL⟩ : ∃ L, Hid (prsL (grpK cs nc) x y = L) := ⟨_, Lib.hid rfl⟩
  rw [hLL.out] at hLl hR2 hcd
  go_enter Tryz.func8, Tryz.ntmps8
  go_wp2_with fail
  refine (RcheckPair_any hK0.out.fz s hn hm sc hnc hmc x y).mono ?_
  rintro e w1 ⟨rfl, hb1⟩
  rw [heb.out]
  have H1 := Lib.hid (hK0.out.callB hb1)
  clear hb1 hK0
  go_wp2_with fail
  refine (Rcommon_any H1.out.fz sc hnc hn2 hpos x y).mono ?_
  rw [hLL.out]
  rintro e w2 ⟨ap, cp, φ2, rfl, hi2, sp⟩
  have H2 := Lib.hid (H1.out.call hi2)
  have S2 := Lib.hid (s.mono hi2.le)
  have HP2 := Lib.hid (hp.mono hi2.le)
  obtain ⟨np, hnp⟩ : ∃ k, Hid (L.length = k) := ⟨_, Lib.hid rfl⟩
  rw [hnp.out] at hLl ⊢
  clear hi2 H1 s sc hφ hp HPW
  generalize hb8 : w.heap.size = b8 at *
  by_cases hL0 : np = 0
  · subst hL0
    have hR3 : Hid ((S, T, F) = (⟨#[]⟩, ⟨#[]⟩, 9)) := Lib.hid (by rw [← hR2.out, kapR, if_pos hnp.out])
    have r0 : w2.cell? ⟨b8, 0, none⟩ = some (.string ⟨#[]⟩) := H2.out.k.cell 0
    have r1' : w2.cell? ⟨b8, 1, none⟩ = some (.string ⟨#[]⟩) := H2.out.k.cell 1
    have r2' := H2.out.k.frz 0
    have r3' := H2.out.k.frz 1
    go_wp2
    have hZ := Lib.hid ((H2.out.k.set 0 (.string ⟨#[]⟩)).set 1 (.string ⟨#[]⟩))
    have e0 : _ = some (Value.string ⟨#[]⟩) := hZ.out.cell 0
    have e1 : _ = some (Value.string ⟨#[]⟩) := hZ.out.cell 1
    (try simp only [Exit.inBlock, Exit.then])
    refine bodyPost_ret (v := .tuple #[.agg #[.string ⟨#[]⟩, .string ⟨#[]⟩], .int .i64 9]) (by simp [results, Tryz.results8, go_sem, e0, e1]) rfl ?_
    have h := hR3.out
    cases h
    subst hb8
    exact ⟨rfl, Below_grown (Below_grown H2.out.bel (grown_setC _ _ _ _) H2.out.lo) (grown_setC _ _ _ _) H2.out.lo⟩
  have g0 : (((np : Nat) : Int) == 0) = false := by rw [beq_eq_false_iff_ne]; omega
  go_wp2
  go_loopw [13, 44] (fun v13 i wr => ∃ m : Nat, m ≤ np ∧ i = .int .i64 m ∧ v13 = .int .i64 (cntP (fun q : Pr => q.1 = q.2) (L.take m) : Nat) ∧ Hid (KrA w b8 φ2 wr)) (fun _ i _ => np - (intOf i).toNat)
  case atStart => exact ⟨0, Nat.zero_le _, rfl, rfl, H2⟩
  case round =>
    clear H2
    obtain ⟨m, hmp, rfl, rfl, hK⟩ := hrel
    by_cases hml : m < np
    · obtain ⟨bp, op, rfl, fp⟩ := sp.prsD hnp hml
      obtain ⟨hbp, d1, d2⟩ := fp m hml wr hK.out.fz
      have htm := Lib.hid (take_snocD (0, 0) L m np hnp.out hml)
      clear fp
      generalize hX : L.getD m (0, 0) = X at *
      obtain ⟨p1, p2⟩ := X
      dsimp only at d1 d2
      have hcs : Hid (cntP (fun q : Pr => q.1 = q.2) (L.take (m + 1)) = cntP (fun q : Pr => q.1 = q.2) (L.take m) + if p1 = p2 then 1 else 0) := Lib.hid (by rw [htm.out, cntP_snoc])
      have hcl : cntP (fun q : Pr => q.1 = q.2) (L.take m) ≤ 20000 := by have := cntP_le (fun q : Pr => q.1 = q.2) (L.take m); rw [List.length_take] at this; omega
      generalize cntP (fun q : Pr => q.1 = q.2) (L.take m) = cn at *
      have hK2 := Lib.hid (hK.out.alloc (.cells #[.int .i64 p1, .int .i64 p2] 52))
      clear hX htm
      by_cases hpe : p1 = p2
      · have he : ((p1 : Int) == p2) = true := by simp [hpe]
        rw [if_pos hpe] at hcs
        clear hpe
        go_wp2
        go_roundw
        case rel => exact ⟨m + 1, by omega, by go_num, by rw [hcs.out]; rfl, hK2⟩
        case measure => (simp [intOf] <;> omega)
      · have he : ((p1 : Int) == p2) = false := by simp [hpe]
        rw [if_neg hpe] at hcs
        clear hpe
        go_wp2
        go_roundw
        case rel => exact ⟨m + 1, by omega, by go_num, by rw [hcs.out]; rfl, hK2⟩
        case measure => (simp [intOf] <;> omega)
    · obtain rfl : np = m := by omega
      have ex : L.take np = L := by rw [← hnp.out, List.take_length]
      rw [ex]
      clear ex
      have hsm : Hid (cntP (fun q : Pr => q.1 = q.2) L = sameN L) := Lib.hid rfl
      rw [hsm.out]
      go_wp2
      go_loopw [14, 58] (fun v14 i wr => ∃ k : Nat, k ≤ n ∧ i = .int .i64 k ∧ v14 = .int .i64 (chS L ((l.map (·.1)).take k) : Nat) ∧ Hid (KrA w b8 φ2 wr)) (fun _ i _ => n - (intOf i).toNat)
      case atStart => exact ⟨0, Nat.zero_le _, rfl, rfl, hK⟩
      case round =>
        clear hK
        rename World => wi
        obtain ⟨k, hk, rfl, rfl, hK⟩ := hrel
        by_cases hlt : k < n
        · obtain ⟨b, off, rfl, f⟩ := S2.out.nodesD hn hlt
          obtain ⟨hb, c1, c2, c3⟩ := f k hlt wi hK.out.fz
          have hstep : Hid (chS L ((l.map (·.1)).take (k + 1)) = chS L ((l.map (·.1)).take k) + cntP (fun q : Pr => q.1 = (l.getD k nod0).1) L * cntP (fun q : Pr => q.2 = (l.getD k nod0).1) L) := Lib.hid (by
            rw [← List.map_take, ← List.map_take, take_snocD nod0 l k n hn.out hlt, List.map_append, List.map_singleton]
            exact sumN_snoc _ _ _)
          have hpart : chS L ((l.map (·.1)).take (k + 1)) ≤ 20000 * 20000 := by
            have hnd : ((l.map (·.1)).take (k + 1)).Nodup := by
              have h1 : (l.map (·.1)).Nodup := (cods_rise hok.out).imp (fun {a b} (h : a < b) (e : a = b) => by omega)
              exact List.Nodup.sublist (List.take_sublist _ _) h1
            have h2 := chnc_part hnd L
            have h3 : L.length * L.length ≤ 20000 * 20000 := Nat.mul_le_mul (by rw [hnp.out]; exact hLl) (by rw [hnp.out]; exact hLl)
            exact Nat.le_trans h2 h3
          clear f
          generalize (l.getD k nod0).2.2 = t3 at *
          generalize (l.getD k nod0).2.1 = t2 at *
          generalize (l.getD k nod0).1 = t1 at *
          rw [hstep.out] at hpart
          have hK2 := Lib.hid (hK.out.alloc (.cells #[.int .i64 t1, .int .i64 t2, .string t3] 51))
          have hB2 := Lib.hid (Blk.new wi #[.int .i64 t1, .int .i64 t2, .string t3] 51)
          go_wp2
          clear c1 c2 c3 hb hK
          generalize (wi.alloc (.cells #[.int .i64 t1, .int .i64 t2, .string t3] 51)) = wa at *
          generalize wi.heap.size = b18 at *
          generalize chS L ((l.map (·.1)).take k) = ch at *
          go_loopw [19, 20, 64] (fun v19 v20 i wm => ∃ m : Nat, m ≤ np ∧ i = .int .i64 m ∧ v19 = .int .i64 (cntP (fun q : Pr => q.1 = t1) (L.take m) : Nat) ∧ v20 = .int .i64 (cntP (fun q : Pr => q.2 = t1) (L.take m) : Nat) ∧ Hid (KrA w b8 φ2 wm) ∧ Hid (Blk wm b18 #[.int .i64 t1, .int .i64 t2, .string t3] 51)) (fun _ _ i _ => np - (intOf i).toNat)
          case atStart => exact ⟨0, Nat.zero_le _, rfl, rfl, rfl, hK2, hB2⟩
          case round =>
            clear hK2 hB2
            rename World => wm
            obtain ⟨m, hmp, rfl, rfl, rfl, hK, hB⟩ := hrel
            have y0 : wm.cell? ⟨b18, 0, none⟩ = some (.int .i64 t1) := hB.out.cell 0
            by_cases hml : m < np
            · obtain ⟨bp, op, rfl, fp⟩ := sp.prsD hnp hml
              obtain ⟨hbp, d1, d2⟩ := fp m hml wm hK.out.fz
              have htm := Lib.hid (take_snocD (0, 0) L m np hnp.out hml)
              clear fp
              generalize hX : L.getD m (0, 0) = X at *
              obtain ⟨p1, p2⟩ := X
              dsimp only at d1 d2
              have hcs1 : Hid (cntP (fun q : Pr => q.1 = t1) (L.take (m + 1)) = cntP (fun q : Pr => q.1 = t1) (L.take m) + if p1 = t1 then 1 else 0) := Lib.hid (by rw [htm.out, cntP_snoc])
              have hcs2 : Hid (cntP (fun q : Pr => q.2 = t1) (L.take (m + 1)) = cntP (fun q : Pr => q.2 = t1) (L.take m) + if p2 = t1 then 1 else 0) := Lib.hid (by rw [htm.out, cntP_snoc])
              have hcl1 : cntP (fun q : Pr => q.1 = t1) (L.take m) ≤ 20000 := by have := cntP_le (fun q : Pr => q.1 = t1) (L.take m); rw [List.length_take] at this; omega
              have hcl2 : cntP (fun q : Pr => q.2 = t1) (L.take m) ≤ 20000 := by have := cntP_le (fun q : Pr => q.2 = t1) (L.take m); rw [List.length_take] at this; omega
              generalize cntP (fun q : Pr => q.1 = t1) (L.take m) = cn1 at *
              generalize cntP (fun q : Pr => q.2 = t1) (L.take m) = cn2 at *
              have hK2 := Lib.hid (hK.out.alloc (.cells #[.int .i64 p1, .int .i64 p2] 52))
              have hB2 := Lib.hid (hB.out.alloc (.cells #[.int .i64 p1, .int .i64 p2] 52))
              have z0 : (wm.alloc (.cells #[.int .i64 p1, .int .i64 p2] 52)).cell? ⟨b18, 0, none⟩ = some (.int .i64 t1) := cell_allocC y0 _
              clear hX htm y0
              by_cases ha : p1 = t1 <;> by_cases hb : p2 = t1
              · have ha2 : ((p1 : Int) == t1) = true := by simp [ha]
                have hb2 : ((p2 : Int) == t1) = true := by simp [hb]
                rw [if_pos ha] at hcs1
                rw [if_pos hb] at hcs2
                clear ha hb
                go_wp2
                go_roundw
                case rel => exact ⟨m + 1, by omega, by go_num, by rw [hcs1.out]; rfl, by rw [hcs2.out]; rfl, hK2, hB2⟩
                case measure => (simp [intOf] <;> omega)
              · have ha2 : ((p1 : Int) == t1) = true := by simp [ha]
                have hb2 : ((p2 : Int) == t1) = false := by simp [hb]
                rw [if_pos ha] at hcs1
                rw [if_neg hb] at hcs2
                clear ha hb
                go_wp2
                go_roundw
                case rel => exact ⟨m + 1, by omega, by go_num, by rw [hcs1.out]; rfl, by rw [hcs2.out]; rfl, hK2, hB2⟩
                case measure => (simp [intOf] <;> omega)
              · have ha2 : ((p1 : Int) == t1) = false := by simp [ha]
                have hb2 : ((p2 : Int) == t1) = true := by simp [hb]
                rw [if_neg ha] at hcs1
                rw [if_pos hb] at hcs2
                clear ha hb
                go_wp2
                go_roundw
                case rel => exact ⟨m + 1, by omega, by go_num, by rw [hcs1.out]; rfl, by rw [hcs2.out]; rfl, hK2, hB2⟩
                case measure => (simp [intOf] <;> omega)
              · have ha2 : ((p1 : Int) == t1) = false := by simp [ha]
                have hb2 : ((p2 : Int) == t1) = false := by simp [hb]
                rw [if_neg ha] at hcs1
                rw [if_neg hb] at hcs2
                clear ha hb
                go_wp2
                go_roundw
                case rel => exact ⟨m + 1, by omega, by go_num, by rw [hcs1.out]; rfl, by rw [hcs2.out]; rfl, hK2, hB2⟩
                case measure => (simp [intOf] <;> omega)
            · obtain rfl : np = m := by omega
              have ex : L.take np = L := by rw [← hnp.out, List.take_length]
              rw [ex]
              clear ex y0
              obtain ⟨q, hq⟩ : ∃ q, Hid (cntP (fun q : Pr => q.1 = t1) L * cntP (fun q : Pr => q.2 = t1) L = q) := ⟨_, Lib.hid rfl⟩
              rw [hq.out] at hpart hstep
              have hw1 : IntKind.i64.wrap ((cntP (fun q : Pr => q.1 = t1) L : Int) * (cntP (fun q : Pr => q.2 = t1) L : Int)) = (q : Int) := by
                rw [← hq.out, Int.natCast_mul]
                refine IntWalk.i64_in _ ?_
                rw [← Int.natCast_mul, hq.out]
                omega
              generalize cntP (fun q : Pr => q.1 = t1) L = cn1 at *
              generalize cntP (fun q : Pr => q.2 = t1) L = cn2 at *
              go_wp2
              go_roundw
              case rel => exact ⟨k + 1, by omega, by go_num, by rw [hstep.out, Int.natCast_add], hK⟩
              case measure => (simp [intOf] <;> omega)
        · obtain rfl : k = n := by omega
          have ex : (l.map (·.1)).take k = l.map (·.1) := List.take_of_length_le (by rw [List.length_map, hn.out]; exact Nat.le_refl _)
          rw [ex, chnc_frame hok.out hcd.out]
          clear ex
          have hLne : L.length ≠ 0 := by rw [hnp.out]; exact hL0
          have hR3 : Hid ((if chnc L = np * np then ratR (((1 : Int) : Rat) / ((1 : Int) : Rat)) else ratR ((((sameN L * np : Nat) : Int) - (chnc L : Int) : Int) / (((np * np : Nat) : Int) - (chnc L : Int) : Int))) = (S, T, F)) := Lib.hid (by
            have h := hR2.out
            rw [kapR, if_neg hLne, hnp.out] at h
            exact h)
          have hsl : sameN L ≤ np := by rw [← hnp.out]; exact cntP_le _ _
          have hcl : chnc L ≤ np * np := by have := chnc_le L; rw [hnp.out] at this; exact this
          have hnn : np * np ≤ 20000 * 20000 := Nat.mul_le_mul hLl hLl
          generalize chnc L = ch at *
          generalize sameN L = sm at *
          have hm1 := HM1.out
          have HM : Hid (400000000 ≤ M ∧ 1000000000000 ≤ M ∧ 1000000000000000000000 ≤ M ∧ 1000000000000000000000000000000000000000 ≤ M) := Lib.hid (by omega)
          clear hm1
          obtain ⟨B, hBq⟩ : ∃ B, Hid (np * np = B) := ⟨_, Lib.hid rfl⟩
          rw [hBq.out] at hnn hcl hR3
          have hB0 : 0 < B := by rw [← hBq.out]; exact Nat.mul_pos (by omega) (by omega)
          have hwB : IntKind.i64.wrap ((np : Int) * (np : Int)) = (B : Int) := by
            rw [← hBq.out, Int.natCast_mul]
            refine IntWalk.i64_in _ ?_
            rw [← Int.natCast_mul, hBq.out]
            omega
          have HFR := Lib.hid (KrA.sta w b8)
          have LR := Lib.hid φ2.le_refl
          by_cases hc2 : ch = B
          · have g1 : ((ch : Int) == (B : Int)) = true := by simp [hc2]
            rw [if_pos hc2] at hR3
            have hR4 : Hid (ratR (((1 : Int) : Rat)) = (S, T, F)) := Lib.hid (by
              rw [← hR3.out, Rat.div_def, Rat.mul_inv_cancel _ (by decide)]
              rfl)
            clear hc2 hR3
            go_wp2_with (first
              | (go_at_call 20; (with_reducible refine (RWhole_C (n := 1) (N := 1) HFR.out (Lib.hid (by omega)) hK).mono ?_); rintro e wA ⟨gA, aA, kA, cA, aA', kA', cA', φA, rfl, SA, LA, VA⟩)
              | (go_at_call 21; (with_reducible refine (RRatio_C HFR.out hD hM VA (Lib.hid φA.le_refl) HP2 LA (Lib.hid (by have := HM.out; omega)) hR4 SA).mono ?_); rintro e wB ⟨rfl, SB⟩; have r0 : wB.cell? ⟨b8, 0, none⟩ = some (.string ⟨#[]⟩) := SB.out.k.cell 0; have r1' : wB.cell? ⟨b8, 1, none⟩ = some (.string ⟨#[]⟩) := SB.out.k.cell 1; have r2' := SB.out.k.frz 0; have r3' := SB.out.k.frz 1))
            have hZ := Lib.hid ((SB.out.k.set 0 (.string S)).set 1 (.string T))
            have e0 : _ = some (Value.string S) := hZ.out.cell 0
            have e1 : _ = some (Value.string T) := hZ.out.cell 1
            (try simp only [Exit.inBlock, Exit.then])
            refine bodyPost_ret (v := .tuple #[.agg #[.string S, .string T], .int .i64 F]) (by simp [results, Tryz.results8, go_sem, e0, e1]) rfl ?_
            subst hb8
            exact ⟨rfl, Below_grown (Below_grown SB.out.bel (grown_setC _ _ _ _) SB.out.lo) (grown_setC _ _ _ _) SB.out.lo⟩
          · have g1 : ((ch : Int) == (B : Int)) = false := by rw [beq_eq_false_iff_ne]; omega
            rw [if_neg hc2] at hR3
            have hR4 : Hid (ratR ((mkRat sm np - mkRat ch B) / (((1 : Int) : Rat) - mkRat ch B)) = (S, T, F)) := Lib.hid (by
              rw [← hR3.out, ← hBq.out]
              exact congrArg ratR (kap_quot hL0 (by rw [hBq.out]; exact hc2)))
            have hy : Hid (((1 : Int) : Rat) - mkRat ch B ≠ 0) := Lib.hid (by rw [← hBq.out]; exact kap_ne hL0 (by rw [hBq.out]; exact hc2))
            clear hc2 hR3
            go_upto_region 32 with (go_at_call 22; (with_reducible refine (RPart_C (a := ch) (b := B) (N := 400000000) (D := 400000000) HFR.out (Lib.hid (by omega)) hK).mono ?_); rintro e wA ⟨gA, aA, kA, cA, aA', kA', cA', φA, rfl, SA, LA, VA⟩)
            have SB : Hid (KrB w b8 wA.heap.size #[.bool gA, .slice aA kA cA, .slice aA' kA' cA'] φA (wA.alloc (.cells #[.bool gA, .slice aA kA cA, .slice aA' kA' cA'] 59))) := Lib.hid ⟨SA.out.alloc _, Blk.new _ _ _⟩
            clear SA hK hwB
            generalize wA.alloc (.cells #[.bool gA, .slice aA kA cA, .slice aA' kA' cA'] 59) = wB at *
            generalize wA.heap.size = b23 at *
            have HSB := Lib.hid (KrB.sta w b8 b23 #[.bool gA, .slice aA kA cA, .slice aA' kA' cA'])
            have SBd : Hid (KrB w b8 b23 #[.bool gA, .slice aA kA cA, .slice aA' kA' cA'] φA wB.drew) := Lib.hid SB.out.drew
            have hcf := Lib.hid (fun (ψ : Phi) (W : World) (hs : Hid (KrB w b8 b23 #[.bool gA, .slice aA kA cA, .slice aA' kA' cA'] ψ W)) => (⟨hs.out.d.cell 0, hs.out.d.cell 1, hs.out.d.cell 2⟩ : W.cell? ⟨b23, 0, none⟩ = some (.bool gA) ∧ W.cell? ⟨b23, 1, none⟩ = some (.slice aA kA cA) ∧ W.cell? ⟨b23, 2, none⟩ = some (.slice aA' kA' cA')))
            have LRA := Lib.hid φA.le_refl
            have HN0 : Hid (sm ≤ 20000 ∧ np ≤ 20000 ∧ 0 < np ∧ 20000 < 9223372036854775808 ∧ 20000 < 9223372036854775808) := Lib.hid (by omega)
            have HN1 : Hid ((1 : Int).natAbs ≤ 1 ∧ 1 < 9223372036854775808) := Lib.hid (by omega)
            have HB1 : Hid (20000 * 400000000 + 400000000 * 20000 ≤ M ∧ 20000 * 400000000 ≤ M) := Lib.hid (by have := HM.out; omega)
            have HC1 : Hid (20000 * 400000000 + 400000000 * 20000 ≤ 16000000000000 ∧ 20000 * 400000000 ≤ 8000000000000) := Lib.hid (by omega)
            have HB2 : Hid (1 * 400000000 + 400000000 * 1 ≤ M ∧ 1 * 400000000 ≤ M) := Lib.hid (by have := HM.out; omega)
            have HC2 : Hid (1 * 400000000 + 400000000 * 1 ≤ 800000000 ∧ 1 * 400000000 ≤ 400000000) := Lib.hid (by omega)
            have HB3 : Hid (16000000000000 * 400000000 ≤ M ∧ 8000000000000 * 800000000 ≤ M ∧ 400000000 ≤ M) := Lib.hid (by have := HM.out; omega)
            have HC3 : Hid (16000000000000 * 400000000 ≤ 10000000000000000000000 ∧ 8000000000000 * 800000000 ≤ 10000000000000000000000) := Lib.hid (by omega)
            have HB4 : Hid (10000000000000000000000 ≤ M ∧ 10000000000000000000000 ≤ M) := Lib.hid (by have := HM.out; omega)
            obtain ⟨y0, y1, y2⟩ := hcf.out φA wB SB
            obtain ⟨x0, x1, x2⟩ := hcf.out φA wB.drew SBd
            clear HM HM1 HFR LR
            go_region_law (first
              | (go_simp; go_at_call 21; (with_reducible refine (RRatio_C HSB.out hD hM VO (Lib.hid φO.le_refl) HP2 (Lib.hid (LA.out.trans (LP.out.trans (LQ.out.trans (LW.out.trans (LN.out.trans LO.out)))))) HB4 hR4 SO).mono ?_); rintro e wR ⟨rfl, SR⟩; have r0 : wR.cell? ⟨b8, 0, none⟩ = some (.string ⟨#[]⟩) := SR.out.a.k.cell 0; have r1' : wR.cell? ⟨b8, 1, none⟩ = some (.string ⟨#[]⟩) := SR.out.a.k.cell 1; have r2' := SR.out.a.k.frz 0; have r3' := SR.out.a.k.frz 1; obtain ⟨v0, v1, v2⟩ := hcf.out φO wR SR)
              | (go_simp; go_at_call 24; (with_reducible refine (ROver_C (N := 10000000000000000000000) (D := 10000000000000000000000) HSB.out hD hM VQ (Lib.hid (LW.out.trans LN.out)) VN (Lib.hid φN.le_refl) hy HB3 HC3 SN).mono ?_); rintro e wO ⟨gO, aO, kO, cO, aO', kO', cO', φO, rfl, SO, LO, VO⟩; obtain ⟨o0, o1, o2⟩ := hcf.out φO wO SO)
              | (go_simp; go_at_call 23; (with_reducible refine (RMinus_C (N := 800000000) (D := 400000000) HSB.out hD hM VW (Lib.hid φW.le_refl) VA (Lib.hid (LP.out.trans (LQ.out.trans LW.out))) HB2 HC2 SW).mono ?_); rintro e wN ⟨gN, aN, kN, cN, aN', kN', cN', φN, rfl, SN, LN, VN⟩; obtain ⟨n0, n1, n2⟩ := hcf.out φN wN SN)
              | (go_simp; go_at_call 20; (with_reducible refine (RWhole_C (n := 1) (N := 1) HSB.out HN1 SQ).mono ?_); rintro e wW ⟨gW, aW, kW, cW, aW', kW', cW', φW, rfl, SW, LW, VW⟩; obtain ⟨m0, m1, m2⟩ := hcf.out φW wW SW)
              | (go_simp; go_at_call 23; (with_reducible refine (RMinus_C (N := 16000000000000) (D := 8000000000000) HSB.out hD hM VP (Lib.hid φP.le_refl) VA LP HB1 HC1 SP).mono ?_); rintro e wQ ⟨gQ, aQ, kQ, cQ, aQ', kQ', cQ', φQ, rfl, SQ, LQ, VQ⟩; obtain ⟨q0, q1, q2⟩ := hcf.out φQ wQ SQ)
              | (go_simp; go_at_call 22; (with_reducible refine (RPart_C (a := sm) (b := np) (N := 20000) (D := 20000) HSB.out HN0 SBd).mono ?_); rintro e wP ⟨gP, aP, kP, cP, aP', kP', cP', φP, rfl, SP, LP, VP⟩; obtain ⟨p0, p1, p2⟩ := hcf.out φP wP SP)
              | fail)
            all_goals
              go_wp2
              have hZ := Lib.hid ((SR.out.a.k.set 0 (.string S)).set 1 (.string T))
              have e0 : _ = some (Value.string S) := hZ.out.cell 0
              have e1 : _ = some (Value.string T) := hZ.out.cell 1
              (try simp only [Exit.inBlock, Exit.then])
              refine bodyPost_ret (v := .tuple #[.agg #[.string S, .string T], .int .i64 F]) (by simp [results, Tryz.results8, go_sem, e0, e1]) rfl ?_
              subst hb8
              exact ⟨rfl, Below_grown (Below_grown SR.out.a.bel (grown_setC _ _ _ _) SR.out.a.lo) (grown_setC _ _ _ _) SR.out.a.lo⟩
end Go.Proofs.YtngogjookldidaaGreatDoor
