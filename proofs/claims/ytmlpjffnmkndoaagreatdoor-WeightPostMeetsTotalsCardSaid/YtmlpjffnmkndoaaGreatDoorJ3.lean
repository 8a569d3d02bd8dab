/- The walk of the reference's Bases. Conditions: the library's table of powers of ten reads as it was laid. -/
import Derived.Test.YtmlpjffnmkndoaaGreatDoorJ2
import Derived.Test.YtmlpjffnmkndoaaGreatDoorB22
import Derived.Test.YtmlpjffnmkndoaaGreatDoorB23
import Derived.Test.YtmlpjffnmkndoaaGreatDoorBB
namespace Go.Proofs.YtmlpjffnmkndoaaGreatDoor
open Go.RowKit
set_option linter.unusedVariables false
set_option linter.unusedSimpArgs false
theorem cmpQ_le {x y : Rat} : cmpQ x y ≤ 0 ↔ x ≤ y := by
  unfold cmpQ
  by_cases h0 : x < y
  · rw [if_pos h0]; exact ⟨fun _ => by grind, fun _ => by decide⟩
  · rw [if_neg h0]
    by_cases h1 : x = y
    · rw [if_pos h1]; exact ⟨fun _ => by grind, fun _ => by decide⟩
    · rw [if_neg h1]; exact ⟨fun h => absurd h (by decide), fun h => absurd h (by grind)⟩
/-- A call, and perhaps a new cell for a ratio. -/
structure RcS (w0 : World) (φ0 φ : Phi) (o : Option Nat) (W : World) : Prop where
  inv : Inv w0.heap.size w0 φ0 φ W
  o : ∀ x, o = some x → RsSt w0 φ0 φ x #[.string ⟨#[]⟩, .string ⟨#[]⟩] 32 W
section
variable {w0 W w' : World} {φ0 φ φ' : Phi} {x : Nat} {o : Option Nat}
theorem RcS.callB (h : RcS w0 φ0 φ o W) (hb : Below W.heap.size W w') : RcS w0 φ0 φ o w' := ⟨h.inv.callB hb, fun x hx => (h.o x hx).callB hb⟩
theorem RcS.call (h : RcS w0 φ0 φ o W) (hi : Inv W.heap.size W φ φ' w') : RcS w0 φ0 φ' o w' := ⟨h.inv.call hi, fun x hx => (h.o x hx).call hi⟩
theorem RcS.al (h : Hid (RcS w0 φ0 φ none W)) : Hid (RcS w0 φ0 φ (some W.heap.size) (W.alloc (.cells #[.string ⟨#[]⟩, .string ⟨#[]⟩] 32))) := by
  refine Lib.hid ⟨h.out.inv.alloc _, fun x hx => ?_⟩
  cases hx
  exact RsSt.start h.out.inv _ _
theorem RcS.alD (h : Hid (RcS w0 φ0 φ none W)) : Hid (RcS w0 φ0 φ (some W.heap.size) (W.alloc (.cells #[.string ⟨#[]⟩, .string ⟨#[]⟩] 32)).drew) := Lib.hid ((RcS.al h).out.callB (bdrewN (Below.refl _ _) 1))
theorem RcS.facts (h : Hid (RcS w0 φ0 φ (some x) W)) : W.cell? ⟨x, 0, none⟩ = some (.string ⟨#[]⟩) ∧ W.cell? ⟨x, 1, none⟩ = some (.string ⟨#[]⟩) ∧ W.frozen? ⟨x, 0, none⟩ = false ∧ W.frozen? ⟨x, 1, none⟩ = false ∧ w0.heap.size ≤ x :=
  have k := (h.out.o x rfl)
  ⟨k.k.cell 0, k.k.cell 1, k.k.frz 0, k.k.frz 1, k.l⟩
theorem RcS.facts2 {g : Nat} (hg : Hid (g < w0.heap.size)) (h : Hid (RcS w0 φ0 φ (some x) W)) : W.cell? ⟨x, 0, none⟩ = some (.string ⟨#[]⟩) ∧ W.cell? ⟨x, 1, none⟩ = some (.string ⟨#[]⟩) ∧ W.frozen? ⟨x, 0, none⟩ = false ∧ W.frozen? ⟨x, 1, none⟩ = false ∧ x ≠ g := by
  obtain ⟨h0, h1, h2, h3, h4⟩ := RcS.facts h
  exact ⟨h0, h1, h2, h3, by have := hg.out; omega⟩
theorem RcS.put {s t : ByteArray} (h : Hid (RcS w0 φ0 φ (some x) W)) : Below w0.heap.size w0 ((W.setCell ⟨x, 0, none⟩ (.string s)).setCell ⟨x, 1, none⟩ (.string t)) ∧ Blk ((W.setCell ⟨x, 0, none⟩ (.string s)).setCell ⟨x, 1, none⟩ (.string t)) x #[.string s, .string t] 32 :=
  have k := ((h.out.o x rfl).set 0 (.string s)).set 1 (.string t)
  ⟨k.inv.bel, k.k⟩
theorem RcS.putNew {s t : ByteArray} (h : Hid (RcS w0 φ0 φ none W)) : Below w0.heap.size w0 (W.alloc (.cells #[.string s, .string t] 32)) ∧ Blk (W.alloc (.cells #[.string s, .string t] 32)) W.heap.size #[.string s, .string t] 32 :=
  ⟨(h.out.inv.alloc _).bel, Blk.new _ _ _⟩
end
theorem ROver_S {M : Nat} (hD : Hid (RdivOk M)) (hM : LenB M) {w0 W : World} {φ0 φ : Phi} {o : Option Nat} {v1 v2 : Value} {x y z : Rat} {N1 D1 N2 D2 NB DB : Nat} (h : Hid (RcS w0 φ0 φ o W)) (hv1 : FrX φ v1 x N1 D1) (hv2 : FrX φ v2 y N2 D2) (hy : y ≠ 0) (hz : x / y = z) (hN : N1 * D2 = NB) (hDB : D1 * N2 = DB) (hM1 : NB ≤ M) (hM2 : DB ≤ M) (hM3 : D2 ≤ M) :
    Calls Tryz.prog 71 #[v1, v2] W (fun e w' => ∃ v φ', e = .returned v ∧ Hid (RcS w0 φ0 φ' o w') ∧ Hid (FrX φ' v z NB DB)) := by
  subst hz hN hDB
  refine (ROver_any hD hM h.out.inv.fz hv1 hv2 hy hM1 hM2 hM3).mono ?_
  rintro e w' ⟨v, φ', rfl, hi, hv⟩
  exact ⟨v, φ', rfl, Lib.hid (h.out.call hi), Lib.hid hv⟩
theorem RWhole_S {w0 W : World} {φ0 φ : Phi} {o : Option Nat} {n : Int} (h0 : -9223372036854775808 < n) (h1 : n < 9223372036854775808) {x : Rat} {N : Nat} (hx : (n : Rat) = x) (hN : n.natAbs = N) (h : Hid (RcS w0 φ0 φ o W)) :
    Calls Tryz.prog 37 #[.int .i64 n] W (fun e w' => ∃ v φ', e = .returned v ∧ Hid (RcS w0 φ0 φ' o w') ∧ Hid (FrX φ' v x N 1) ∧ Hid (φ.le φ')) := by
  subst hx hN
  refine (RWhole_any h0 h1 h.out.inv.fz).mono ?_
  rintro e w' ⟨v, φ', rfl, hi, hv⟩
  exact ⟨v, φ', rfl, Lib.hid (h.out.call hi), Lib.hid hv, Lib.hid hi.le⟩
theorem RRatio_S {M : Nat} (hD : Hid (RdivOk M)) (hM : LenB M) {w0 W : World} {φ0 φ : Phi} {o : Option Nat} {v : Value} {x : Rat} {N D : Nat} (h : Hid (RcS w0 φ0 φ o W)) (hp : PowP φ) (hv : FrX φ v x N D) (hN : N ≤ M) (hDM : D ≤ M) {S T : ByteArray} {F : Int} (hR : Hid (ratR x = (S, T, F))) :
    Calls Tryz.prog 75 #[v] W (fun e w' => e = .returned (.tuple #[.agg #[.string S, .string T], .int .i64 F]) ∧ Hid (RcS w0 φ0 φ o w')) := by
  refine (RRatio_any hD hM h.out.inv.fz hp hv hN hDM hR).mono ?_
  rintro e w' ⟨rfl, hb⟩
  exact ⟨rfl, Lib.hid (h.out.callB hb)⟩
end Go.Proofs.YtmlpjffnmkndoaaGreatDoor
