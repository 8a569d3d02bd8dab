/- The plain law of trimmed weights. The state of a call with a box, a row of numbers and a row of marks of its own. States that last over calls; the contracts of exact numbers, the program's and the reference's, over such a state. The plain law of Post: empty cells, fitted weights. make for elements of several cells; the walk of the program's empty. Frozen rows of raw numbers; the walk of the program's fitted, once for each change of weights. The walk of the program's Post. Conditions: the library's table of powers of ten reads as it was laid. The walks of the reference's nobody and Post. Conditions: the library's tables of blanks and of powers of ten read as they were laid. The law WeightPostMatchesSpec. Conditions: the library's tables of blanks and of powers of ten read as they were laid. Conditions: none beyond what the claim form gives. -/
import Derived.Test.YtmlpjffnmkndoaaGreatDoorJY
import Derived.Test.YtmlpjffnmkndoaaGreatDoorJX
import Derived.Deep.OwnRows
import Derived.Test.YtmlpjffnmkndoaaGreatDoorP12
import Derived.Test.YtmlpjffnmkndoaaGreatDoorP16
import Derived.Test.YtmlpjffnmkndoaaGreatDoorJE
import Derived.Test.YtmlpjffnmkndoaaGreatDoorB23
import Derived.Test.YtmlpjffnmkndoaaGreatDoorHT
import Derived.Outline
import Derived.Test.YtmlpjffnmkndoaaGreatDoorHS
import Derived.Deep.RegionHeldLaw
namespace Go.Proofs.YtmlpjffnmkndoaaGreatDoor
open Go.RowKit
set_option linter.unusedVariables false
set_option linter.unusedSimpArgs false
theorem getD_set (c : List Bool) (i k : Nat) (h : i < c.length) : (c.set i true).getD k false = if k = i then true else c.getD k false := by
 simp only [List.getD_eq_getElem?_getD, List.getElem?_set]
 by_cases e : k = i
 ·subst e; simp [h]
 ·rw [if_neg (Ne.symm e), if_neg e]
section
variable {w : Nat → Rat} {b : Rat} {c : List Bool}
end
section
variable {l : List Psn} {m : Rat}
end
end Go.Proofs.YtmlpjffnmkndoaaGreatDoor

namespace Go.Proofs.YtmlpjffnmkndoaaGreatDoor
open Go.RowKit
set_option linter.unusedVariables false
set_option linter.unusedSimpArgs false
theorem Own.setNe {α : Type} [Rep α] {B : Nat} {φ : Phi} {w : World} {E : TypeId} {g cap : Nat} {xs : List α} (h : Own B φ w E (some ⟨g, 0, none⟩) cap xs) {b k : Nat} {v : Value} (hne : g ≠ b) : Own B φ (w.setCell ⟨b, k, none⟩ v) E (some ⟨g, 0, none⟩) cap xs :=
 h.other (row := some b) ⟨rfl, rfl, rfl, by simp [World.setCell], fun q _ hq => Below.heap_setCell _ _ _ _ (by intro e; exact hq (by rw [e]))⟩ (fun x hx e => by cases hx; cases e; exact hne rfl)
theorem RsSt.setNe {w0 wr : World} {φ0 φ : Phi} {b g : Nat} {cs : Array Value} {T : TypeId} (h : RsSt w0 φ0 φ b cs T wr) (hg : w0.heap.size ≤ g) (hf : φ g = none) (hne : g ≠ b) (j : Nat) (u : Value) : RsSt w0 φ0 φ b cs T (wr.setCell ⟨g, j, none⟩ u) := ⟨h.inv.setCell hg hf u, h.k.other hne u, h.f, h.l⟩
theorem Own.markD {B : Nat} {φ : Phi} {w : World} {E : TypeId} {a : Option Addr} {cap : Nat} {xs : List Bool} (h : Own B φ w E a cap xs) {k n : Nat} (hn : Hid (xs.length = n)) (hk : k < n) :
  ∃ g, a = some ⟨g, 0, none⟩ ∧ g < w.heap.size ∧ ∀ k, k < n → w.cell? ⟨g, k, none⟩ = some (.bool (xs.getD k false)) ∧ w.frozen? ⟨g, k, none⟩ = false ∧
   ∀ y w0 φ0, Inv B w0 φ0 φ w → Own B φ (w.setCell ⟨g, k, none⟩ (.bool y)) E a cap (xs.set k y) ∧ Inv B w0 φ0 φ (w.setCell ⟨g, k, none⟩ (.bool y)) := by
 obtain ⟨g, rfl, _, hg, _, hf, hc⟩ := h.elem (k := k) (by rw [hn.out]; exact hk)
 refine ⟨g, rfl, hg, fun k hk => ?_⟩
 have hk' : k < xs.length := by rw [hn.out]; exact hk
 obtain ⟨cs, hcs, hj⟩ := hc k hk'
 have hcs' : cs = [.bool xs[k]] := hcs
 subst hcs'
 have h0 := hj 0 (by simp)
 simp [Rep.size] at h0
 refine ⟨by rw [h0, getD_elem0 _ _ _ hk'], hf k, fun y w0 φ0 hi => ?_⟩
 have := h.setCell hi hk' (y := y) (j := 0) (u := .bool y) hj rfl (by simp) rfl
 simpa [Rep.size] using this
section
variable {T E : TypeId} {w0 W w' : World} {φ0 φ φ' : Phi} {b : Nat} {cs : Array Value} {g cg : Nat} {rs : List Raw3} {e ce : Nat} {c : List Bool}
end
/-- make of marks, as an equation. -/
theorem makeB_eq (n : Nat) (h : n ≤ 281474976710656) (w : World) : (Instr.makeSlice 108 (.int .i64 (n : Int)) (.int .i64 (n : Int))).run Tryz.prog w = .ok (.slice (some ⟨w.heap.size, 0, none⟩) n n) (w.alloc (.cells (madeCells #[.bool false] n) 4)) :=
 run_make_row' 108 4 (.bool false) 1 Tryz.underlying108 (by kernel_rfl) rfl .i64 .i64 n (by omega) (by omega) w
theorem madeB_list (n : Nat) : (madeCells #[Value.bool false] n).toList = List.replicate n (Value.bool false) := by
 unfold madeCells
 rw [Array.toList_map, Array.toList_range]
 apply List.ext_getElem
 ·simp
 ·intro i h1 h2
  simp [Nat.mod_one]
theorem Own.madeB {B : Nat} {w0 w : World} {φ0 φ : Phi} (hi : Inv B w0 φ0 φ w) (E : TypeId) (n : Nat) (hn : n ≤ maxLen) : Own B φ (w.alloc (.cells (madeCells #[.bool false] n) E)) E (some ⟨w.heap.size, 0, none⟩) n (List.replicate n false) := by
 have hr : RepL φ (List.replicate n false) (madeCells #[.bool false] n).toList := by
  rw [madeB_list]
  have h := RepL.replicate (φ := φ) (α := Bool) (y := false) (rfl : Rep.rep φ false [Value.bool false]) n
  have e : (List.replicate n [Value.bool false]).flatten = List.replicate n (Value.bool false) := by simp
  rwa [e] at h
 have := Own.lit hi E hr (by rw [List.length_replicate]; exact hn)
 rwa [List.length_replicate] at this
end Go.Proofs.YtmlpjffnmkndoaaGreatDoor

namespace Go.Proofs.YtmlpjffnmkndoaaGreatDoor
open Go.RowKit
set_option linter.unusedVariables false
set_option linter.unusedSimpArgs false
/-- A state that lasts over calls. -/
structure Sta (P : Phi → World → Prop) : Prop where
 fz : ∀ {φ W}, P φ W → Fz φ W
 call : ∀ {φ W φ' w'}, P φ W → Inv W.heap.size W φ φ' w' → P φ' w'
section
variable {P : Phi → World → Prop} {φ : Phi} {W : World} {M : Nat}
theorem Sta.callB (hP : Sta P) (h : P φ W) {w' : World} (hb : Below W.heap.size W w') : P φ w' := hP.call h ((Inv.start (hP.fz h)).callB hb)
def FrS (P : Phi → World → Prop) (φ : Phi) (x : Rat) (N D : Nat) (e : Ending) (w' : World) : Prop :=
 ∃ (g : Bool) (a1 : Option Addr) (k1 c1 : Nat) (a2 : Option Addr) (k2 c2 : Nat) (φ' : Phi), e = .returned (.agg #[.bool g, .slice a1 k1 c1, .slice a2 k2 c2]) ∧ Hid (P φ' w') ∧ Hid (φ.le φ') ∧ Hid (FrX φ' (.agg #[.bool g, .slice a1 k1 c1, .slice a2 k2 c2]) x N D)
theorem FrS.of (hP : Sta P) {y : Rat} {N D N' D' : Nat} (hN : N ≤ N') (hDD : D ≤ D') (h : Hid (P φ W)) {en : Ending} {w' : World} (hp : FrXP y N D φ W en w') : FrS P φ y N' D' en w' := by
 obtain ⟨v, φ', rfl, hi, hv⟩ := hp
 have hv := hv.le hN hDD
 obtain ⟨g, n, d, k1, k2, a1, c1, a2, c2, rfl, _⟩ := hv.open
 exact ⟨g, a1, k1, c1, a2, k2, c2, φ', rfl, Lib.hid (hP.call h.out hi), Lib.hid hi.le, Lib.hid hv⟩
theorem RFracOf_P (hP : Sta P) {s t : ByteArray} (h : Hid (RatOk s t)) {x : Rat} (hx : Hid (ratX s t = x)) {N D : Nat} (hB : Hid (dV (bodyB s).data.toList ≤ N ∧ dV t.data.toList ≤ D)) (hS : Hid (P φ W)) :
  Calls Tryz.prog 12 #[.agg #[.string s, .string t]] W (FrS P φ x N D) :=
 (RFracOf_any h.out (hP.fz hS.out)).mono (fun en w' hp => by rw [hx.out] at hp; exact FrS.of hP hB.out.1 hB.out.2 hS hp)
theorem RPlus_P (hP : Sta P) (hD : Hid (RdivOk M)) (hM : LenB M) {v1 v2 : Value} {x y : Rat} {N1 D1 N2 D2 : Nat} {ψ : Phi} (h1 : Hid (FrX ψ v1 x N1 D1)) (hl : Hid (ψ.le φ)) (h2 : Hid (FrX φ v2 y N2 D2)) (hB : Hid (N1 * D2 + N2 * D1 ≤ M ∧ D1 * D2 ≤ M)) {N D : Nat} (hN : Hid (N1 * D2 + N2 * D1 ≤ N ∧ D1 * D2 ≤ D)) (hS : Hid (P φ W)) :
  Calls Tryz.prog 38 #[v1, v2] W (FrS P φ (x + y) N D) :=
 (RPlus_any hD hM (hP.fz hS.out) (h1.out.mono hl.out) h2.out hB.out.1 hB.out.2).mono (fun en w' hp => FrS.of hP hN.out.1 hN.out.2 hS hp)
theorem RMinus_P (hP : Sta P) (hD : Hid (RdivOk M)) (hM : LenB M) {v1 v2 : Value} {x y : Rat} {N1 D1 N2 D2 : Nat} {ψ : Phi} (h1 : Hid (FrX ψ v1 x N1 D1)) (hl : Hid (ψ.le φ)) (h2 : Hid (FrX φ v2 y N2 D2)) (hB : Hid (N1 * D2 + N2 * D1 ≤ M ∧ D1 * D2 ≤ M)) {N D : Nat} (hN : Hid (N1 * D2 + N2 * D1 ≤ N ∧ D1 * D2 ≤ D)) (hS : Hid (P φ W)) :
  Calls Tryz.prog 15 #[v1, v2] W (FrS P φ (x - y) N D) :=
 (RMinus_any hD hM (hP.fz hS.out) (h1.out.mono hl.out) h2.out hB.out.1 hB.out.2).mono (fun en w' hp => FrS.of hP hN.out.1 hN.out.2 hS hp)
theorem RTimes_P (hP : Sta P) (hD : Hid (RdivOk M)) (hM : LenB M) {v1 v2 : Value} {x y : Rat} {N1 D1 N2 D2 : Nat} {ψ ψ2 : Phi} (h1 : Hid (FrX ψ v1 x N1 D1)) (hl : Hid (ψ.le φ)) (h2 : Hid (FrX ψ2 v2 y N2 D2)) (hl2 : Hid (ψ2.le φ)) (hB : Hid (N1 * N2 ≤ M ∧ D1 * D2 ≤ M ∧ N1 ≤ M ∧ N2 ≤ M)) {N D : Nat} (hN : Hid (N1 * N2 ≤ N ∧ D1 * D2 ≤ D)) (hS : Hid (P φ W)) :
  Calls Tryz.prog 70 #[v1, v2] W (FrS P φ (x * y) N D) :=
 (RTimes_any hD hM (hP.fz hS.out) (h1.out.mono hl.out) (h2.out.mono hl2.out) hB.out.1 hB.out.2.1 hB.out.2.2.1 hB.out.2.2.2).mono (fun en w' hp => FrS.of hP hN.out.1 hN.out.2 hS hp)
theorem ROver_P (hP : Sta P) (hD : Hid (RdivOk M)) (hM : LenB M) {v1 v2 : Value} {x y : Rat} {N1 D1 N2 D2 : Nat} {ψ ψ2 : Phi} (h1 : Hid (FrX ψ v1 x N1 D1)) (hl : Hid (ψ.le φ)) (h2 : Hid (FrX ψ2 v2 y N2 D2)) (hl2 : Hid (ψ2.le φ)) (hy : Hid (y ≠ 0)) (hB : Hid (N1 * D2 ≤ M ∧ D1 * N2 ≤ M ∧ D2 ≤ M)) {N D : Nat} (hN : Hid (N1 * D2 ≤ N ∧ D1 * N2 ≤ D)) (hS : Hid (P φ W)) :
  Calls Tryz.prog 71 #[v1, v2] W (FrS P φ (x / y) N D) :=
 (ROver_any hD hM (hP.fz hS.out) (h1.out.mono hl.out) (h2.out.mono hl2.out) hy.out hB.out.1 hB.out.2.1 hB.out.2.2).mono (fun en w' hp => FrS.of hP hN.out.1 hN.out.2 hS hp)
theorem ROpposite_P (hP : Sta P) {v : Value} {x : Rat} {N D : Nat} {ψ : Phi} (h1 : Hid (FrX ψ v x N D)) (hl : Hid (ψ.le φ)) (hS : Hid (P φ W)) :
  Calls Tryz.prog 17 #[v] W (FrS P φ (-x) N D) :=
 (ROpposite_any (hP.fz hS.out) (h1.out.mono hl.out)).mono (fun en w' hp => FrS.of hP (Nat.le_refl _) (Nat.le_refl _) hS hp)
theorem ROrder_P (hP : Sta P) (hD : Hid (RdivOk M)) (hM : LenB M) {v1 v2 : Value} {x y : Rat} {N1 D1 N2 D2 : Nat} {ψ ψ2 : Phi} (h1 : Hid (FrX ψ v1 x N1 D1)) (hl : Hid (ψ.le φ)) (h2 : Hid (FrX ψ2 v2 y N2 D2)) (hl2 : Hid (ψ2.le φ)) (hB : Hid (N1 * D2 + N2 * D1 ≤ M ∧ D1 * D2 ≤ M)) {q : Int} (hq : Hid (cmpQ x y = q)) (hS : Hid (P φ W)) :
  Calls Tryz.prog 11 #[v1, v2] W (fun e w' => ∃ φ', e = .returned (.int .i64 q) ∧ Hid (P φ' w') ∧ Hid (φ.le φ')) :=
 (ROrder_any hD hM (hP.fz hS.out) (h1.out.mono hl.out) (h2.out.mono hl2.out) hB.out.1 hB.out.2 hq).mono (fun en w' hp => ⟨φ, hp.1, Lib.hid (hP.callB hS.out hp.2), Lib.hid φ.le_refl⟩)
theorem RZero_P (hP : Sta P) {v : Value} {x : Rat} {N D : Nat} {ψ : Phi} (h1 : Hid (FrX ψ v x N D)) (hl : Hid (ψ.le φ)) {b : Bool} (hb : Hid (decide (x = 0) = b)) (hS : Hid (P φ W)) :
  Calls Tryz.prog 39 #[v] W (fun e w' => e = .returned (.bool b) ∧ Hid (P φ w')) :=
 (RZero_any (hP.fz hS.out) (h1.out.mono hl.out) hb).mono (fun en w' hp => ⟨hp.1, Lib.hid (hP.callB hS.out hp.2)⟩)
/-- The same of the program's numbers. -/
def FfS (P : Phi → World → Prop) (φ : Phi) (x : Rat) (N D : Nat) (e : Ending) (w' : World) : Prop :=
 ∃ (g : Bool) (a1 : Option Addr) (k1 c1 : Nat) (a2 : Option Addr) (k2 c2 : Nat) (φ' : Phi), e = .returned (.agg #[.bool g, .slice a1 k1 c1, .slice a2 k2 c2]) ∧ Hid (P φ' w') ∧ Hid (φ.le φ') ∧ Hid (FfX φ' (.agg #[.bool g, .slice a1 k1 c1, .slice a2 k2 c2]) x N D)
theorem FfS.of (hP : Sta P) {y : Rat} {N D N' D' : Nat} (hN : N ≤ N') (hDD : D ≤ D') (h : Hid (P φ W)) {en : Ending} {w' : World} (hp : FfXP y N D φ W en w') : FfS P φ y N' D' en w' := by
 obtain ⟨v, φ', rfl, hi, hv⟩ := hp
 have hv := hv.le hN hDD
 obtain ⟨g, n, d, k1, k2, a1, c1, a2, c2, rfl, _⟩ := hv.open
 exact ⟨g, a1, k1, c1, a2, k2, c2, φ', rfl, Lib.hid (hP.call h.out hi), Lib.hid hi.le, Lib.hid hv⟩
theorem FracOf_P (hP : Sta P) (hD : Hid (DivOk M)) (hM2 : p10 2000 ≤ M) {s t : ByteArray} (hs : Hid (s.size ≤ 9223372036854775807 ∧ t.size ≤ 9223372036854775807)) (h : Hid (ratF s t = 0)) {x : Rat} (hx : Hid (ratX s t = x)) {N D : Nat} (hB : Hid (dV (bodyB s).data.toList ≤ N ∧ dV t.data.toList ≤ D)) (hS : Hid (P φ W)) :
  Calls Tryz.prog 42 #[.agg #[.string s, .string t]] W (FfS P φ x N D) :=
 (FracOf_any hD hM2 hs.out.1 hs.out.2 h (hP.fz hS.out)).mono (fun en w' hp => by rw [hx.out] at hp; exact FfS.of hP hB.out.1 hB.out.2 hS hp)
theorem Minus_P (hP : Sta P) (hD : Hid (DivOk M)) (hM : LenB M) {v1 v2 : Value} {x y : Rat} {N1 D1 N2 D2 : Nat} {ψ ψ2 : Phi} (h1 : Hid (FfX ψ v1 x N1 D1)) (hl : Hid (ψ.le φ)) (h2 : Hid (FfX ψ2 v2 y N2 D2)) (hl2 : Hid (ψ2.le φ)) (hB : Hid (N1 * D2 + N2 * D1 ≤ M ∧ D1 * D2 ≤ M)) {N D : Nat} (hN : Hid (N1 * D2 + N2 * D1 ≤ N ∧ D1 * D2 ≤ D)) (hS : Hid (P φ W)) :
  Calls Tryz.prog 90 #[v1, v2] W (FfS P φ (x - y) N D) :=
 (Minus_any hD hM (hP.fz hS.out) (h1.out.mono hl.out) (h2.out.mono hl2.out) hB.out.1 hB.out.2).mono (fun en w' hp => FfS.of hP hN.out.1 hN.out.2 hS hp)
theorem Times_P (hP : Sta P) (hD : Hid (DivOk M)) (hM : LenB M) {v1 v2 : Value} {x y : Rat} {N1 D1 N2 D2 : Nat} {ψ ψ2 : Phi} (h1 : Hid (FfX ψ v1 x N1 D1)) (hl : Hid (ψ.le φ)) (h2 : Hid (FfX ψ2 v2 y N2 D2)) (hl2 : Hid (ψ2.le φ)) (hB : Hid (N1 * N2 ≤ M ∧ D1 * D2 ≤ M ∧ N1 ≤ M ∧ N2 ≤ M)) {N D : Nat} (hN : Hid (N1 * N2 ≤ N ∧ D1 * D2 ≤ D)) (hS : Hid (P φ W)) :
  Calls Tryz.prog 78 #[v1, v2] W (FfS P φ (x * y) N D) :=
 (Times_any hD hM (hP.fz hS.out) (h1.out.mono hl.out) (h2.out.mono hl2.out) hB.out.1 hB.out.2.1 hB.out.2.2.1 hB.out.2.2.2).mono (fun en w' hp => FfS.of hP hN.out.1 hN.out.2 hS hp)
theorem Over_P (hP : Sta P) (hD : Hid (DivOk M)) (hM : LenB M) {v1 v2 : Value} {x y : Rat} {N1 D1 N2 D2 : Nat} {ψ ψ2 : Phi} (h1 : Hid (FfX ψ v1 x N1 D1)) (hl : Hid (ψ.le φ)) (h2 : Hid (FfX ψ2 v2 y N2 D2)) (hl2 : Hid (ψ2.le φ)) (hy : Hid (y ≠ 0)) (hB : Hid (N1 * D2 ≤ M ∧ D1 * N2 ≤ M ∧ D2 ≤ M)) {N D : Nat} (hN : Hid (N1 * D2 ≤ N ∧ D1 * N2 ≤ D)) (hS : Hid (P φ W)) :
  Calls Tryz.prog 77 #[v1, v2] W (FfS P φ (x / y) N D) :=
 (Over_any hD hM (hP.fz hS.out) (h1.out.mono hl.out) (h2.out.mono hl2.out) hy.out hB.out.1 hB.out.2.1 hB.out.2.2).mono (fun en w' hp => FfS.of hP hN.out.1 hN.out.2 hS hp)
theorem Compare_P (hP : Sta P) (hM : LenB M) {v1 v2 : Value} {x y : Rat} {N1 D1 N2 D2 : Nat} {ψ ψ2 : Phi} (h1 : Hid (FfX ψ v1 x N1 D1)) (hl : Hid (ψ.le φ)) (h2 : Hid (FfX ψ2 v2 y N2 D2)) (hl2 : Hid (ψ2.le φ)) (hB : Hid (N1 * D2 + N2 * D1 ≤ M ∧ D1 * D2 ≤ M)) {q : Int} (hq : Hid (cmpQ x y = q)) (hS : Hid (P φ W)) :
  Calls Tryz.prog 44 #[v1, v2] W (fun e w' => e = .returned (.int .i64 q) ∧ Hid (P φ w')) :=
 (Compare_any hM (hP.fz hS.out) (h1.out.mono hl.out) (h2.out.mono hl2.out) hB.out.1 hB.out.2 hq).mono (fun en w' hp => ⟨hp.1, Lib.hid (hP.callB hS.out hp.2)⟩)
theorem Sign_P (hP : Sta P) {v : Value} {x : Rat} {N D : Nat} {ψ : Phi} (h1 : Hid (FfX ψ v x N D)) (hl : Hid (ψ.le φ)) {q : Int} (hq : Hid (sgI x = q)) (hS : Hid (P φ W)) :
  Calls Tryz.prog 76 #[v] W (fun e w' => e = .returned (.int .i64 q) ∧ Hid (P φ w')) :=
 (Sign_any (hP.fz hS.out) (h1.out.mono hl.out) hq).mono (fun en w' hp => ⟨hp.1, Lib.hid (hP.callB hS.out hp.2)⟩)
end
theorem Inv.sta (w0 : World) (φ0 : Phi) : Sta (fun φ W => Inv w0.heap.size w0 φ0 φ W) := ⟨fun h => h.fz, fun h hi => h.call hi⟩
theorem OwG.sta {α : Type} [Rep α] (w0 : World) (φ0 : Phi) (E : TypeId) (ao : Option Addr) (co : Nat) (out : List α) : Sta (fun φ W => OwG w0 φ0 φ E ao co out W) := ⟨fun h => h.inv.fz, fun h hi => h.call hi⟩
theorem OwR.sta {α : Type} [Rep α] (w0 : World) (φ0 : Phi) (E : TypeId) (ao : Option Addr) (co : Nat) (out : List α) : Sta (fun φ W => OwR w0 φ0 φ E ao co out W) := ⟨fun h => h.inv.fz, fun h hi => h.call hi⟩
end Go.Proofs.YtmlpjffnmkndoaaGreatDoor

namespace Go.Proofs.YtmlpjffnmkndoaaGreatDoor
open Go.RowKit
set_option linter.unusedVariables false
set_option linter.unusedSimpArgs false
/-- A total. -/
noncomputable def ttQ (T : List Rti) (c : Nat) : Rat := ratX (T.getD c rti0).1 (T.getD c rti0).2
open Classical in
/-- There is a cell that is empty, with a total that is not 0. -/
noncomputable def nobB (z : Nat → Prop) (T : List Rti) (n : Nat) : Bool := decide (∃ c, c < n ∧ z c ∧ ttQ T c ≠ 0)
section
variable {z z' : Nat → Prop} {T : List Rti} {n c : Nat}
open Classical in
theorem nobB_yes (h : c < n) (hz : z c) (ht : ttQ T c ≠ 0) : nobB z T n = true := by
 unfold nobB; exact decide_eq_true ⟨c, h, hz, ht⟩
open Classical in
theorem nobB_no (h : ∀ c, c < n → ¬ (z c ∧ ttQ T c ≠ 0)) : nobB z T n = false := by
 unfold nobB; exact decide_eq_false (fun ⟨c, hc, hz⟩ => h c hc hz)
open Classical in
theorem nobB_congr (h : ∀ c, c < n → (z c ↔ z' c)) : nobB z T n = nobB z' T n := by
 unfold nobB
 exact decide_eq_decide.2 ⟨fun ⟨c, hc, hz, ht⟩ => ⟨c, hc, (h c hc).1 hz, ht⟩, fun ⟨c, hc, hz, ht⟩ => ⟨c, hc, (h c hc).2 hz, ht⟩⟩
end
section
variable {w : Nat → Rat} {l : List Psn} {mi n : Nat} {c : Int}
theorem celQ_nn (h : ∀ j, j < n → 0 ≤ w j) : ∀ k, k ≤ n → 0 ≤ celQ w l mi c k := by
  intro k
  induction k with
  | zero => exact fun _ => Rat.le_refl
  | succ k ih =>
    intro hk
    have h1 := ih (by omega)
    have h2 := h k (by omega)
    by_cases e : celI l mi k = c
    · rw [celQ_yes e]; grind
    · rw [celQ_no e]; exact h1
theorem celQ_none : ∀ k, (∀ j, j < k → celI l mi j ≠ c) → celQ w l mi c k = 0 := by
 intro k
 induction k with
 | zero => exact fun _ => rfl
 | succ k ih => exact fun h => by rw [celQ_no (h k (by omega)), ih (fun j hj => h j (by omega))]
theorem celQ_ge (h : ∀ j, j < n → 0 ≤ w j) {j : Nat} (e : celI l mi j = c) : ∀ k, k ≤ n → j < k → w j ≤ celQ w l mi c k := by
  intro k
  induction k with
  | zero => exact fun _ hj => absurd hj (Nat.not_lt_zero j)
  | succ k ih =>
    intro hk hj
    have h1 := celQ_nn (l := l) (mi := mi) (c := c) h k (by omega)
    have h2 := h k (by omega)
    by_cases e2 : celI l mi k = c
    · rw [celQ_yes e2]
      by_cases e3 : j = k
      · subst e3; grind
      · have := ih (by omega) (by omega); grind
    · rw [celQ_no e2]
      exact ih (by omega) (by
        by_cases e3 : j = k
        · subst e3; exact absurd e e2
        · omega)
theorem celQ_pos (h : ∀ j, j < n → 0 < w j) {j : Nat} (hj : j < n) (e : celI l mi j = c) : celQ w l mi c n ≠ 0 := by
 have h1 := celQ_ge (l := l) (mi := mi) (fun j hj => Rat.le_of_lt (h j hj)) e n (Nat.le_refl _) hj
 have h2 := h j hj
 intro e2
 rw [e2] at h1
 grind
theorem celQ_zero (h : ∀ j, j < n → 0 < w j) : celQ w l mi c n = 0 ↔ ∀ j, j < n → celI l mi j ≠ c :=
 ⟨fun e j hj e2 => celQ_pos h hj e2 e, fun h2 => celQ_none n h2⟩
end
theorem ppmF_pos {m : List Mgn} {l : List Psn} {n : Nat} (hn : l.length = n) (h : ppmF m l = 0) : ∀ j, j < n → 0 < wgtQ l j := by
 subst hn
 obtain ⟨_, _, h3⟩ := ppmF_ok h
 exact fun j hj => (psmF_ok (h3 j hj)).2.1
theorem ppmF_tot {m : List Mgn} {l : List Psn} {nm : Nat} (hm : m.length = nm) (h : ppmF m l = 0) : ∀ i, i < nm → ∀ r ∈ (m.getD i mgn0).2, shoF r.1 r.2 = 0 ∧ 0 ≤ ratX r.1 r.2 := by
 subst hm
 obtain ⟨h1, _, _⟩ := ppmF_ok h
 obtain ⟨_, h5, _⟩ := mgsF_ok h1
 intro i hi r hr
 obtain ⟨k, hk, rfl⟩ := List.getElem_of_mem hr
 have := ttlF_ok ((ttsF_ok (mgnF_ok (h5 i hi)).2).2.2 k hk)
 rwa [getD_elem0 _ _ _ hk] at this
/-- A weight behind the fitting to a margin. -/
noncomputable def fitX (ch : Rat → Rat) (ws : List Rat) (l : List Psn) (mi : Nat) (T : List Rti) (n j : Nat) : Rat :=
 if celQ (fun j => ws.getD j 0) l mi (celI l mi j) n = 0 then ws.getD j 0 else ch (ws.getD j 0 * ttQ T (celI l mi j).toNat / celQ (fun j => ws.getD j 0) l mi (celI l mi j) n)
noncomputable def fitL (ch : Rat → Rat) (ws : List Rat) (l : List Psn) (mi : Nat) (T : List Rti) (n k : Nat) : List Rat := (List.range k).map (fitX ch ws l mi T n)
theorem fitL_succ {ch : Rat → Rat} {ws : List Rat} {l : List Psn} {mi : Nat} {T : List Rti} {n k : Nat} : fitL ch ws l mi T n (k + 1) = fitL ch ws l mi T n k ++ [fitX ch ws l mi T n k] := by
 unfold fitL; rw [List.range_succ, List.map_append]; rfl
theorem fitL_len {ch : Rat → Rat} {ws : List Rat} {l : List Psn} {mi : Nat} {T : List Rti} {n k : Nat} : (fitL ch ws l mi T n k).length = k := by simp [fitL]
section
variable {m : List Mgn} {l : List Psn} {mi : Int} {i n nm : Nat}
end
end Go.Proofs.YtmlpjffnmkndoaaGreatDoor

namespace Go.Proofs.YtmlpjffnmkndoaaGreatDoor
open Go.RowKit
set_option linter.unusedVariables false
set_option linter.unusedSimpArgs false
theorem madeS_list (cs : Array Value) : ∀ n, (madeCells cs (n * cs.size)).toList = (List.replicate n cs.toList).flatten := by
  intro n
  induction n with
  | zero => simp [madeCells]
  | succ n ih =>
    rw [List.replicate_succ, List.flatten_cons, ← ih]
    apply List.ext_getElem
    · simp [size_madeCells, Nat.succ_mul, Nat.add_comm]
    · intro i h1 h2
      rw [List.getElem_append]
      split
      · next h =>
        have h' : i < cs.size := by simpa using h
        simp [madeCells, Nat.mod_eq_of_lt h', h']
      · next h =>
        have h' : cs.size ≤ i := by simpa using h
        simp only [madeCells, Array.getElem_toList, Array.getElem_map, Array.getElem_range, Array.length_toList]
        rw [Nat.mod_eq_sub_mod h']
theorem wpList_mkS {α : Type} [Rep α] {P : Program} {w : World} {ops : Array Oper} {rest : List Oper} {o : Oper} {act : Act} {Q : Exit → Act → World → Prop} (hgd : o.guard = none) (l c : Operand) (T : TypeId) (hop : o.op = Op.makeSlice T l c)
  {E : TypeId} {z : Value} {bytes : Nat} (st : SliceTy P T E z (Rep.size α) bytes) {B : Nat} {w0 : World} {φ0 φ : Phi} (hi : Inv B w0 φ0 φ w) (kl kc : IntKind) (n : Nat) (y : α) (hy : ∀ φ, Rep.rep φ y z.cells.toList)
  (hl : act.eval l = .int kl n) (hc : act.eval c = .int kc n) (hbound : bytes * n ≤ 281474976710656)
  (h : ∀ w', Inv B w0 φ0 φ w' → Own B φ w' E (some ⟨w.heap.size, 0, none⟩) n (List.replicate n y) → w.grownBy w' none → wpList P ops Q rest (act.put o.dst (.slice (some ⟨w.heap.size, 0, none⟩) n n)) w') : wpList P ops Q (o :: rest) act w := by
 obtain ⟨i, i1, i2, i3, i4⟩ := info_parts st.info
 have hb1 : n ≤ bytes * n := Nat.le_mul_of_pos_left _ st.bpos
 refine wpList_make_full w hgd l c T hop B E i z (Rep.size α) st.und i1 i2 i3 kl kc n n n hl hc rfl rfl (by rw [i4]; exact hbound) (by unfold maxLen; omega) hi.size ?_
 intro w' k1 k2
 have hi' : Inv B w0 φ0 φ w' := ⟨hi.bel.grown k2 hi.size (fun k e => by cases e), hi.base, fun b o hb => (k2.block b (hi.fz.mlt hb) (by simp)).trans (hi.fz b o hb), hi.le, hi.new⟩
 refine h w' hi' ⟨⟨_, by rw [List.length_replicate]; exact k1, ?_⟩, fun y2 hy => ?_⟩ k2
 ·rw [show Rep.size α = z.cells.size from st.zs.symm, madeS_list]
  exact RepL.replicate (hy φ) n
 ·injection hy with hy
  subst hy
  cases hφ : φ w.heap.size with
  | none => rfl
  | some ob => have := hi.fz.mlt hφ; omega
set_option maxRecDepth 100000 in
set_option maxHeartbeats 2000000 in
theorem empty_any {M : Nat} (hD : Hid (DivOk M)) (hM2 : p10 2000 ≤ M) {m : List Mgn} {nm cm mi nt : Nat} {a0 : Option Addr} {al : Option Addr} {cl : Nat} {l : List Psn} {n : Nat} {w : World} {φ : Phi} (hφ : Fz φ w) (sm : SlV φ a0 cm m) (hnm : Hid (m.length = nm)) (hmn : mi < nm) (hnt9 : Hid ((m.getD mi mgn0).2.length = nt)) (hT : Hid (∀ r ∈ (m.getD mi mgn0).2, RtiG r ∧ shoF r.1 r.2 = 0)) (sl : SlV φ al cl l) (hn : Hid (l.length = n)) (hn3 : n ≤ 3000) (hnt : nt ≤ 40) (hmi : mi ≤ 8) (hc : Hid (∀ j, j < n → mi < (l.getD j psn0).2.1.length ∧ ∃ c : Nat, c < nt ∧ celI l mi j = (c : Int))) {b : Bool} (hb : Hid (nobB (fun c => ∀ j, j < n → celI l mi j ≠ (c : Int)) (m.getD mi mgn0).2 nt = b)) :
  Calls Tryz.prog 30 #[.slice a0 nm cm, .slice al n cl, .int .i64 (mi : Int)] w (fun e w' => e = .returned (.bool b) ∧ Below w.heap.size w w') := by
 have HM2 := Lib.hid hM2
 have HSL := Lib.hid sl
 obtain ⟨bm, om, rfl, fm⟩ := sm.mgnsD hnm hmn
 obtain ⟨ar, cr, sr, f1⟩ := fm mi hmn
 have d1 := (f1 w hφ).2
 rw [hnt9.out] at d1
 have F1 := Lib.hid (fun W (hf : Fz φ W) => (f1 W hf).2)
 rw [hnt9.out] at F1
 obtain ⟨T, hTT⟩ : ∃ T, (m.getD mi mgn0).2 = T := ⟨_, rfl⟩
 rw [hTT] at hnt9 hT hb sr
 have SR := Lib.hid sr
 have hmni : (mi : Int) < (nm : Int) := by omega
 have hnml : nm ≤ 9223372036854775807 := by have := sm.capn; have := sm.capm; rw [hnm.out] at *; unfold maxLen at *; omega
 have em := makeB_eq nt (by omega)
 have HI0 := Lib.hid (Inv.start hφ)
 have hcrl : nt ≤ 9223372036854775807 := by omega
 clear hφ sl sm hM2 fm f1 hTT sr
 go_enter Tryz.func30, Tryz.ntmps30
 go_upto_region 2 with fail
 have hS0 : Hid (OwG w φ φ 4 (some ⟨w.heap.size, 0, none⟩) nt (List.replicate nt false) (w.alloc (.cells (madeCells #[.bool false] nt) 4))) := Lib.hid ⟨HI0.out.alloc _, Own.madeB HI0.out _ nt (by unfold maxLen; omega)⟩
 generalize w.alloc (.cells (madeCells #[.bool false] nt) 4) = wx at *
 obtain ⟨gh, hgh⟩ : ∃ b, w.heap.size = b := ⟨_, rfl⟩
 rw [hgh] at hS0 ⊢
 have HGH := Lib.hid hgh
 clear hgh em d1
 go_wp2
 go_loopw [21] (fun iv wr => ∃ (k : Nat) (L : List Bool) (φ' : Phi), k ≤ n ∧ iv = .int .i64 (k : Int) ∧ Hid (φ.le φ') ∧ Hid (L.length = nt) ∧ Hid (∀ c, c < nt → (L.getD c false = true ↔ ∃ j, j < k ∧ celI l mi j = (c : Int))) ∧ Hid (OwG w φ φ' 4 (some ⟨gh, 0, none⟩) nt L wr)) (fun iv _ => n - (intOf iv).toNat)
 case atStart => exact ⟨0, List.replicate nt false, φ, Nat.zero_le _, rfl, Lib.hid φ.le_refl, Lib.hid (by simp), Lib.hid (fun c hc => by
  constructor
  ·intro h; simp [List.getD_eq_getElem?_getD, hc] at h
  ·rintro ⟨j, hj, _⟩; omega), hS0⟩
 case round =>
  clear hS0
  obtain ⟨j, L, φ'', hj, rfl, hle, hLl, hL, hS⟩ := hrel
  by_cases hjl : j < n
  ·have hjli : (j : Int) < (n : Int) := by omega
   obtain ⟨b, off, rfl, fp⟩ := HSL.out.psnsD hn hjl
   obtain ⟨ac, cc, sc, f2⟩ := fp j hjl
   obtain ⟨d0, d1, d2, d3, d4, d5⟩ := f2 wr (hS.out.inv.fz.sub hS.out.inv.le)
   obtain ⟨hml', ct, hct, hce⟩ := hc.out j hjl
   have hce2 : Hid (celI l mi j = (ct : Int)) := Lib.hid hce
   unfold celI at hce
   generalize l.getD j psn0 = p at *
   obtain ⟨⟨s, t⟩, cs, x, y, z⟩ := p
   dsimp only at d0 d1 d2 d3 d4 d5 sc hce hml'
   obtain ⟨mc, hmc⟩ : ∃ m, cs.length = m := ⟨_, rfl⟩
   rw [hmc] at d2 hml'
   have hcn := Lib.hid hmc
   have hmcc : mc ≤ 9223372036854775807 := by have h1 := sc.capn; have h2 := sc.capm; rw [hmc] at h1; unfold maxLen at h2; omega
   obtain ⟨bc, oc, rfl, fc⟩ := sc.intsD hcn hml'
   have FC := Lib.hid (fc mi hml')
   rw [hce] at FC
   obtain ⟨φp, lp, ip, ep⟩ := (Inv.start hS.out.inv.fz).frz (.cells #[.string s, .string t, .slice (some ⟨bc, oc, none⟩) mc cc, .int .i64 x, .int .i64 y, .int .i64 z] 76)
   have hS1 := Lib.hid (hS.out.call ip)
   have LP := Lib.hid (hle.out.trans lp)
   have EP := Lib.hid ep
   have hmii : (mi : Int) < (mc : Int) := by omega
   have hcti : (ct : Int) < (nt : Int) := by omega
   have d9 : (wr.alloc (.cells #[.string s, .string t, .slice (some ⟨bc, oc, none⟩) mc cc, .int .i64 x, .int .i64 y, .int .i64 z] 76)).cell? ⟨bc, oc + mi, none⟩ = some (.int .i64 (ct : Int)) := (FC.out _ (hS1.out.inv.fz.sub hS1.out.inv.le)).2
   clear fp f2 hmc fc ip ep lp hS hce hle
   go_upto_region 5 with fail
   generalize wr.alloc (.cells #[.string s, .string t, .slice (some ⟨bc, oc, none⟩) mc cc, .int .i64 x, .int .i64 y, .int .i64 z] 76) = wz at *
   generalize wr.heap.size = b5 at *
   clear d0 d1 d2 d3 d4 d5
   have x2 : wz.cell? ⟨b5, 2, none⟩ = some (.slice (some ⟨bc, oc, none⟩) mc cc) := box_cell EP.out φp.le_refl hS1.out.inv.fz 2
   obtain ⟨gh', hgh', _, hmk⟩ := hS1.out.own.markD hLl hct
   cases hgh'
   obtain ⟨m1, m2, m3⟩ := hmk ct hct
   have hN := m3 true w φ hS1.out.inv
   have HN : Hid (OwG w φ φp 4 (some ⟨gh, 0, none⟩) nt (L.set ct true) (wz.setCell ⟨gh, ct, none⟩ (.bool true))) := Lib.hid ⟨hN.2, hN.1⟩
   have hLn : Hid (∀ c, c < nt → ((L.set ct true).getD c false = true ↔ ∃ j', j' < j + 1 ∧ celI l mi j' = (c : Int))) := Lib.hid (fun c hc => by
    rw [getD_set L ct c (by rw [hLl.out]; exact hct)]
    by_cases e : c = ct
    ·subst e
     rw [if_pos rfl]
     exact ⟨fun _ => ⟨j, by omega, hce2.out⟩, fun _ => rfl⟩
    ·rw [if_neg e, hL.out c hc]
     constructor
     ·rintro ⟨i, hi, h⟩; exact ⟨i, by omega, h⟩
     ·rintro ⟨i, hi, h⟩
      by_cases e2 : i = j
      ·subst e2; rw [hce2.out] at h; exact absurd (by omega) e
      ·exact ⟨i, by omega, h⟩)
   clear hN hmk m3
   go_wp2
   go_roundw
   case rel => exact ⟨j + 1, L.set ct true, φp, by omega, by go_num, LP, Lib.hid (by rw [List.length_set, hLl.out]), hLn, HN⟩
   case measure => (simp [intOf] <;> omega)
  ·obtain rfl : j = n := by omega
   have d1 := F1.out wr (hS.out.inv.fz.sub hS.out.inv.le)
   go_wp2
   go_loopw [39] (fun iv wr => ∃ (k : Nat) (φ3 : Phi), k ≤ nt ∧ iv = .int .i64 (k : Int) ∧ Hid (∀ c, c < k → ¬ ((∀ j', j' < j → celI l mi j' ≠ (c : Int)) ∧ ttQ T c ≠ 0)) ∧ Hid (OwG w φ φ3 4 (some ⟨gh, 0, none⟩) nt L wr)) (fun iv _ => nt - (intOf iv).toNat)
   case atStart => exact ⟨0, φ'', Nat.zero_le _, rfl, Lib.hid (fun c hc => absurd hc (Nat.not_lt_zero c)), hS⟩
   case round =>
    clear hS d1
    obtain ⟨k, φ3, hk, rfl, hok, hS⟩ := hrel
    by_cases hlt : k < nt
    ·have hlti : (k : Int) < (nt : Int) := by omega
     obtain ⟨bt, ot, hbt, ft⟩ := SR.out.rtisD hnt9 hlt
     obtain ⟨e0, e1⟩ := ft k hlt wr (hS.out.inv.fz.sub hS.out.inv.le)
     have hm : T.getD k rti0 ∈ T := by rw [getD_elem0 _ _ _ (by rw [hnt9.out]; exact hlt)]; exact List.getElem_mem _
     obtain ⟨hg1, hg2⟩ := hT.out _ hm
     have htq : Hid (ttQ T k = ratX (T.getD k rti0).1 (T.getD k rti0).2) := Lib.hid rfl
     generalize T.getD k rti0 = p at *
     obtain ⟨s, t⟩ := p
     dsimp only at e0 e1 hg2 htq
     have hsz : Hid (s.size ≤ 9223372036854775807 ∧ t.size ≤ 9223372036854775807) := Lib.hid hg1
     have hrf := Lib.hid (shoF_ok hg2).1
     have hbd := Lib.hid (sho_lt hg2)
     have hx : Hid (ratX s t = ttQ T k) := Lib.hid htq.out.symm
     obtain ⟨φp, lp, ip, ep⟩ := (Inv.start hS.out.inv.fz).frz (.cells #[.string s, .string t] 32)
     have hS1 := Lib.hid (hS.out.call ip)
     have EP := Lib.hid ep
     cases hbt
     clear ft hm hg1 hg2 ip ep lp hS htq
     go_upto_region 10 with fail
     generalize wr.alloc (.cells #[.string s, .string t] 32) = wz at *
     generalize wr.heap.size = b5 at *
     clear e0 e1
     obtain ⟨gh', hgh', _, hmk⟩ := hS1.out.own.markD hLl hlt
     cases hgh'
     obtain ⟨m1, m2, _⟩ := hmk k hlt
     have x0 : wz.cell? ⟨b5, 0, none⟩ = some (.string s) := box_cell EP.out φp.le_refl hS1.out.inv.fz 0
     have x1 : wz.cell? ⟨b5, 1, none⟩ = some (.string t) := box_cell EP.out φp.le_refl hS1.out.inv.fz 1
     obtain ⟨g, hg⟩ : ∃ g, L.getD k false = g := ⟨_, rfl⟩
     rw [hg] at m1
     have hLk := Lib.hid (hL.out k hlt)
     rw [hg] at hLk
     clear hmk
     cases g
     ·have hno : Hid (∀ j', j' < j → celI l mi j' ≠ (k : Int)) := Lib.hid (fun j' hj' e => by
       have := hLk.out.2 ⟨j', hj', e⟩
       exact absurd this (by decide))
      obtain ⟨q, hq⟩ : ∃ q, Hid (sgI (ttQ T k) = q) := ⟨_, Lib.hid rfl⟩
      have hqz : q = 0 ↔ ttQ T k = 0 := by
       rw [← hq.out]
       unfold sgI
       by_cases h1 : ttQ T k = 0
       ·rw [if_pos h1]; exact ⟨fun _ => h1, fun _ => rfl⟩
       ·rw [if_neg h1]
        split
        ·exact ⟨fun h => absurd h (by decide), fun h => absurd h h1⟩
        ·exact ⟨fun h => absurd h (by decide), fun h => absurd h h1⟩
      by_cases hq0 : q = 0
      ·have hok2 : Hid (∀ c, c < k + 1 → ¬ ((∀ j', j' < j → celI l mi j' ≠ (c : Int)) ∧ ttQ T c ≠ 0)) := Lib.hid (fun c hc => by
        by_cases e : c = k
        ·subst e; exact fun h => h.2 (hqz.1 hq0)
        ·exact hok.out c (by omega))
       have hqi : ((q : Int) == 0) = true := by simp [hq0]
       have hqj : ((q : Int) != 0) = false := by simp [hq0]
       clear hqz hq0
       go_wp2_with (first
        | (go_at_call 42; (with_reducible refine (FracOf_P (OwG.sta _ _ _ _ _ _) hD HM2.out hsz hrf hx hbd hS1).mono ?_); rintro e w2 ⟨g2, a1, k1, c1, a2, k2, c2, φ2, rfl, S2, L2, V2⟩)
        | (go_at_call 76; (with_reducible refine (Sign_P (OwG.sta _ _ _ _ _ _) V2 (Lib.hid φ2.le_refl) hq S2).mono ?_); rintro e w4 ⟨rfl, S4⟩)
        | fail)
       go_roundw
       case rel => exact ⟨k + 1, φ2, by omega, by go_num, hok2, S4⟩
       case measure => (simp [intOf] <;> omega)
      ·have HB : Hid (b = true) := Lib.hid (by rw [← hb.out]; exact nobB_yes hlt hno.out (fun h => hq0 (hqz.2 h)))
       have hqi : ((q : Int) == 0) = false := by simp [hq0]
       have hqj : ((q : Int) != 0) = true := by simp [hq0]
       clear hqz hq0
       go_wp2_with (first
        | (go_at_call 42; (with_reducible refine (FracOf_P (OwG.sta _ _ _ _ _ _) hD HM2.out hsz hrf hx hbd hS1).mono ?_); rintro e w2 ⟨g2, a1, k1, c1, a2, k2, c2, φ2, rfl, S2, L2, V2⟩)
        | (go_at_call 76; (with_reducible refine (Sign_P (OwG.sta _ _ _ _ _ _) V2 (Lib.hid φ2.le_refl) hq S2).mono ?_); rintro e w4 ⟨rfl, S4⟩)
        | fail)
       go_ret
       exact ⟨ret_bool HB.out.symm, HGH.out ▸ S4.out.inv.bel⟩
     ·have hok2 : Hid (∀ c, c < k + 1 → ¬ ((∀ j', j' < j → celI l mi j' ≠ (c : Int)) ∧ ttQ T c ≠ 0)) := Lib.hid (fun c hc => by
       by_cases e : c = k
       ·subst e
        obtain ⟨j', hj', h⟩ := hLk.out.1 rfl
        exact fun hh => hh.1 j' hj' h
       ·exact hok.out c (by omega))
      go_wp2
      go_roundw
      case rel => exact ⟨k + 1, φp, by omega, by go_num, hok2, hS1⟩
      case measure => (simp [intOf] <;> omega)
    ·obtain rfl : k = nt := by omega
     have HB : Hid (b = false) := Lib.hid (by rw [← hb.out]; exact nobB_no hok.out)
     go_wp2
     go_ret
     exact ⟨ret_bool HB.out.symm, HGH.out ▸ hS.out.inv.bel⟩
end Go.Proofs.YtmlpjffnmkndoaaGreatDoor

namespace Go.Proofs.YtmlpjffnmkndoaaGreatDoor
open Go.RowKit
set_option linter.unusedVariables false
set_option linter.unusedSimpArgs false
theorem SlV.rawD {φ : Phi} {a : Option Addr} {cap : Nat} {xs : List Raw3} (h : SlV φ a cap xs) {n : Nat} (hn : Hid (xs.length = n)) {k : Nat} (hk : k < n) :
  ∃ b off, a = some ⟨b, off, none⟩ ∧ ∀ k, k < n → ∀ w, Fz φ w → w.cell? ⟨b, off + k * 3, none⟩ = some (.bool (xs.getD k raw0).g) ∧ w.cell? ⟨b, off + k * 3 + 1, none⟩ = some (.slice (xs.getD k raw0).a1 (xs.getD k raw0).k1 (xs.getD k raw0).c1) ∧ w.cell? ⟨b, off + k * 3 + 2, none⟩ = some (.slice (xs.getD k raw0).a2 (xs.getD k raw0).k2 (xs.getD k raw0).c2) := by
 obtain ⟨b, off, ha, hc⟩ := h.cellsD raw0 hn hk
 refine ⟨b, off, ha, fun k hk w hw => ?_⟩
 obtain ⟨cs, hr, hj⟩ := hc k hk
 have hr : cs = [.bool (xs.getD k raw0).g, .slice (xs.getD k raw0).a1 (xs.getD k raw0).k1 (xs.getD k raw0).c1, .slice (xs.getD k raw0).a2 (xs.getD k raw0).k2 (xs.getD k raw0).c2] := hr
 subst hr
 have j0 := hj 0 (by simp)
 have j1 := hj 1 (by simp)
 have j2 := hj 2 (by simp)
 simp [Rep.size] at j0 j1 j2
 exact ⟨hw.cell j0, hw.cell j1, hw.cell j2⟩
theorem slRaw : SliceTy Tryz.prog 62 70 (.agg #[.bool false, .slice none 0 0, .slice none 0 0]) (Rep.size Raw3) 56 := ⟨Tryz.underlying62, by kernel_rfl, rfl, (show 0 < 3 by decide), by decide⟩
/-- The bounds that fitting wants. -/
structure FtB (M N D n N0 : Nat) : Prop where
 c1 : n * N * D ^ n ≤ M
 c2 : D ^ n ≤ M
 c3 : N0 * D ^ n ≤ M
 c4 : N0 * (n * N * D ^ n) ≤ M
 c5 : N * (N0 * D ^ n) ≤ M
 c6 : D * (N0 * (n * N * D ^ n)) ≤ M
 c7 : N ≤ M
 c8 : N * N0 ≤ M
 c9 : D * N0 ≤ M
 c10 : N0 ≤ M
theorem sgI_z {x : Rat} : sgI x = 0 ↔ x = 0 := by
 unfold sgI
 by_cases h1 : x = 0
 ·rw [if_pos h1]; exact ⟨fun _ => h1, fun _ => rfl⟩
 ·rw [if_neg h1]
  split
  ·exact ⟨fun h => absurd h (by decide), fun h => absurd h h1⟩
  ·exact ⟨fun h => absurd h (by decide), fun h => absurd h h1⟩
end Go.Proofs.YtmlpjffnmkndoaaGreatDoor

namespace Go.Proofs.YtmlpjffnmkndoaaGreatDoor
open Go.RowKit
set_option linter.unusedVariables false
set_option linter.unusedSimpArgs false
/-- Empty cells of people whose weights are more than 0. -/
theorem nob_pos {l : List Psn} {i n nt : Nat} {T : List Rti} (h : ∀ j, j < n → 0 < wgtQ l j) : nobB (fun c => ∀ j, j < n → celI l i j ≠ (c : Int)) T nt = nobB (fun c => celQ (wgtQ l) l i (c : Int) n = 0) T nt :=
 nobB_congr (fun c _ => (celQ_zero h).symm)
end Go.Proofs.YtmlpjffnmkndoaaGreatDoor

namespace Go.Proofs.YtmlpjffnmkndoaaGreatDoor
open Go.RowKit
set_option linter.unusedVariables false
set_option linter.unusedSimpArgs false
set_option maxRecDepth 100000 in
set_option maxHeartbeats 2000000 in
theorem nobody_any {N D : Nat} {nm : ByteArray} {T : List Rti} {nt cr : Nat} {ar : Option Addr} {xs : List Rat} {ax : Option Addr} {cx : Nat} {w : World} {φ : Phi} (hφ : Fz φ w) (sr : SlV φ ar cr T) (hnt9 : Hid (T.length = nt)) (hT : Hid (∀ r ∈ T, shoF r.1 r.2 = 0)) (sx : SlV φ ax cx (xs.map (Rx.mk (N := N) (D := D)))) (hxs : Hid (xs.length = nt)) (hnt : nt ≤ 40) {b : Bool} (hb : Hid (nobB (fun c => xs.getD c 0 = 0) T nt = b)) :
  Calls Tryz.prog 69 #[.agg #[.string nm, .slice ar nt cr], .slice ax nt cx] w (fun e w' => e = .returned (.bool b) ∧ Below w.heap.size w w') := by
 have SR := Lib.hid sr
 have SX := Lib.hid sx
 have hxm : Hid ((xs.map (Rx.mk (N := N) (D := D))).length = nt) := Lib.hid (by rw [List.length_map, hxs.out])
 obtain ⟨φb, lb, ib, eb⟩ := (Inv.start hφ).frz (.cells #[.string nm, .slice ar nt cr] 30)
 have HI0 := Lib.hid ib
 have EB := Lib.hid eb
 have LB := Lib.hid lb
 clear hφ sr sx ib eb lb
 go_enter Tryz.func69, Tryz.ntmps69
 go_upto_region 1 with fail
 generalize w.alloc (.cells #[.string nm, .slice ar nt cr] 30) = wx at *
 obtain ⟨b4, hb4⟩ : ∃ b, w.heap.size = b := ⟨_, rfl⟩
 rw [hb4] at EB ⊢
 have HB4 := Lib.hid hb4
 clear hb4
 have x1 : wx.cell? ⟨b4, 1, none⟩ = some (.slice ar nt cr) := box_cell EB.out φb.le_refl HI0.out.fz 1
 go_wp2
 go_loopw [10] (fun iv wr => ∃ (k : Nat) (φ3 : Phi), k ≤ nt ∧ iv = .int .i64 (k : Int) ∧ Hid (∀ c, c < k → ¬ (xs.getD c 0 = 0 ∧ ttQ T c ≠ 0)) ∧ Hid (Inv w.heap.size w φ φ3 wr)) (fun iv _ => nt - (intOf iv).toNat)
 case atStart => exact ⟨0, φb, Nat.zero_le _, rfl, Lib.hid (fun c hc => absurd hc (Nat.not_lt_zero c)), HI0⟩
 case round =>
  clear x1 HI0
  obtain ⟨k, φ3, hk, rfl, hok, hS⟩ := hrel
  by_cases hlt : k < nt
  ·have hlti : (k : Int) < (nt : Int) := by omega
   obtain ⟨bt, ot, rfl, ft⟩ := SR.out.rtisD hnt9 hlt
   obtain ⟨e0, e1⟩ := ft k hlt wr (hS.out.fz.sub hS.out.le)
   have hm : T.getD k rti0 ∈ T := by rw [getD_elem0 _ _ _ (by rw [hnt9.out]; exact hlt)]; exact List.getElem_mem _
   have hg2 := hT.out _ hm
   have htq : Hid (ttQ T k = ratX (T.getD k rti0).1 (T.getD k rti0).2) := Lib.hid rfl
   generalize T.getD k rti0 = p at *
   obtain ⟨s, t⟩ := p
   dsimp only at e0 e1 hg2 htq
   have hrf := Lib.hid (ratF_ok (shoF_ok hg2).1)
   have hbd := Lib.hid (sho_lt hg2)
   have hx : Hid (ratX s t = ttQ T k) := Lib.hid htq.out.symm
   obtain ⟨bs, os_, rfl, fs⟩ := SX.out.rxD hxm hlt
   obtain ⟨g6, a6, k6, c6, a7, k7, c7, hx6, f6⟩ := fs k hlt
   rw [rx_getD] at hx6
   obtain ⟨φp, lp, ip, ep⟩ := (Inv.start hS.out.fz).frz (.cells #[.string s, .string t] 32)
   have hS1 := Lib.hid (hS.out.call ip)
   have EP := Lib.hid ep
   have HX6 := Lib.hid ((hx6.mono hS.out.le).mono lp)
   have F6 := Lib.hid f6
   obtain ⟨sk, hsk⟩ : ∃ s, Hid (xs.getD k 0 = s) := ⟨_, Lib.hid rfl⟩
   rw [hsk.out] at HX6
   clear ft hm hg2 ip ep lp hS htq fs hx6 f6
   go_upto_region 4 with fail
   generalize wr.alloc (.cells #[.string s, .string t] 32) = wz at *
   generalize wr.heap.size = b5 at *
   clear e0 e1
   obtain ⟨y0, y1, y2⟩ := F6.out wz (hS1.out.fz.sub hS1.out.le)
   have LR := Lib.hid φp.le_refl
   obtain ⟨z, hz⟩ : ∃ z, Hid (decide (sk = 0) = z) := ⟨_, Lib.hid rfl⟩
   obtain ⟨z2, hz2⟩ : ∃ z, Hid (decide (ttQ T k = 0) = z) := ⟨_, Lib.hid rfl⟩
   have hbx := Lib.hid (fun (W : World) (hi : Inv w.heap.size w φ φp W) => (⟨box_cell EP.out φp.le_refl hi.fz 0, box_cell EP.out φp.le_refl hi.fz 1⟩ : W.cell? ⟨b5, 0, none⟩ = some (.string s) ∧ W.cell? ⟨b5, 1, none⟩ = some (.string t)))
   cases z
   ·have hok2 : Hid (∀ c, c < k + 1 → ¬ (xs.getD c 0 = 0 ∧ ttQ T c ≠ 0)) := Lib.hid (fun c hc => by
     by_cases e : c = k
     ·subst e; exact fun h => of_decide_eq_false hz.out (hsk.out.symm.trans h.1)
     ·exact hok.out c (by omega))
    go_wp2_with (go_at_call 39; (with_reducible refine (RZero_P (Inv.sta _ _) HX6 LR hz hS1).mono ?_); rintro e w4 ⟨rfl, S4⟩)
    go_roundw
    case rel => exact ⟨k + 1, φp, by omega, by go_num, hok2, S4⟩
    case measure => (simp [intOf] <;> omega)
   ·cases z2
    ·have HB : Hid (b = true) := Lib.hid (by rw [← hb.out]; exact nobB_yes hlt (hsk.out.trans (of_decide_eq_true hz.out)) (of_decide_eq_false hz2.out))
     go_wp2_with (first
      | (go_at_call 39; (with_reducible refine (RZero_P (Inv.sta _ _) V2 (Lib.hid φ2.le_refl) hz2 S2).mono ?_); rintro e w5 ⟨rfl, S5⟩)
      | (go_at_call 12; (with_reducible refine (RFracOf_P (Inv.sta _ _) hrf hx hbd S4).mono ?_); rintro e w2 ⟨g2, a1, k1, c1, a2, k2, c2, φ2, rfl, S2, L2, V2⟩)
      | (go_at_call 39; (with_reducible refine (RZero_P (Inv.sta _ _) HX6 LR hz hS1).mono ?_); rintro e w4 ⟨rfl, S4⟩; obtain ⟨q0, q1⟩ := hbx.out _ S4.out)
      | fail)
     go_ret
     exact ⟨ret_bool HB.out.symm, HB4.out ▸ S5.out.bel⟩
    ·have hok2 : Hid (∀ c, c < k + 1 → ¬ (xs.getD c 0 = 0 ∧ ttQ T c ≠ 0)) := Lib.hid (fun c hc => by
      by_cases e : c = k
      ·subst e; exact fun h => h.2 (of_decide_eq_true hz2.out)
      ·exact hok.out c (by omega))
     go_wp2_with (first
      | (go_at_call 39; (with_reducible refine (RZero_P (Inv.sta _ _) V2 (Lib.hid φ2.le_refl) hz2 S2).mono ?_); rintro e w5 ⟨rfl, S5⟩)
      | (go_at_call 12; (with_reducible refine (RFracOf_P (Inv.sta _ _) hrf hx hbd S4).mono ?_); rintro e w2 ⟨g2, a1, k1, c1, a2, k2, c2, φ2, rfl, S2, L2, V2⟩)
      | (go_at_call 39; (with_reducible refine (RZero_P (Inv.sta _ _) HX6 LR hz hS1).mono ?_); rintro e w4 ⟨rfl, S4⟩; obtain ⟨q0, q1⟩ := hbx.out _ S4.out)
      | fail)
     go_roundw
     case rel => exact ⟨k + 1, φ2, by omega, by go_num, hok2, S5⟩
     case measure => (simp [intOf] <;> omega)
  ·obtain rfl : k = nt := by omega
   have HB : Hid (b = false) := Lib.hid (by rw [← hb.out]; exact nobB_no hok.out)
   go_wp2
   go_ret
   exact ⟨ret_bool HB.out.symm, HB4.out ▸ hS.out.bel⟩
end Go.Proofs.YtmlpjffnmkndoaaGreatDoor

namespace Go.Proofs.YtmlpjffnmkndoaaGreatDoor
open Go.RowKit
set_option linter.unusedVariables false
set_option linter.unusedSimpArgs false
end Go.Proofs.YtmlpjffnmkndoaaGreatDoor
