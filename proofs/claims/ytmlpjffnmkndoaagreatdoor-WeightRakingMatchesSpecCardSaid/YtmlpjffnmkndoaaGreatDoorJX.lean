/- The state of a call with a slice of its own and two boxes; the bounds of answers. Two maps of slices of exact numbers that a call makes, beside a slice of its own; maps of slices that are frozen. Rows of numbers of the call's own, cell by cell; weights as a row of the call's own. Conditions: none beyond what the claim form gives. -/
import Derived.Test.YtmlpjffnmkndoaaGreatDoorJZ
import Derived.Test.YtmlpjffnmkndoaaGreatDoorJA
import Derived.Test.YtmlpjffnmkndoaaGreatDoorJP
import Derived.Test.YtmlpjffnmkndoaaGreatDoorLB
namespace Go.Proofs.YtmlpjffnmkndoaaGreatDoor
open Go.RowKit
set_option linter.unusedVariables false
set_option linter.unusedSimpArgs false
theorem Own.frz {α : Type} [Rep α] {B : Nat} {φ φ' : Phi} {w : World} {E : TypeId} {a : Option Addr} {cap : Nat} {xs : List α} (h : Own B φ w E a cap xs) (hl : φ.le φ') (hq : ∀ x, a = some x → φ' x.block = φ x.block) : Own B φ' w E a cap xs := by
 obtain ⟨cells, h1, hr⟩ := h.row
 exact ⟨⟨cells, h1, hr.mono hl⟩, fun x hx => by rw [hq x hx]; exact h.free x hx⟩
theorem OwG.set {α : Type} [Rep α] {w0 wr : World} {φ0 φ : Phi} {E : TypeId} {ao : Option Addr} {co : Nat} {out : List α} (h : OwG w0 φ0 φ E ao co out wr) {g off : Nat} (hg : w0.heap.size ≤ g) (hφ : φ g = none) (ha : ∀ x, ao = some x → x.block ≠ g) (u : Value) : OwG w0 φ0 φ E ao co out (wr.setCell ⟨g, off, none⟩ u) :=
 ⟨h.inv.setCell hg hφ u, h.own.other (row := some g) ⟨rfl, rfl, rfl, by simp [World.setCell], fun k _ hk => Below.heap_setCell _ _ _ _ (by intro e; exact hk (by rw [e]))⟩ (fun x hx e => ha x hx (by cases e; rfl))⟩
section
variable {α : Type} [Rep α] {E E2 : TypeId} {w0 W w' : World} {φ0 φ φ' : Phi} {ao : Option Addr} {co : Nat} {os : List α} {b1 b2 : Nat} {cs1 cs2 : Array Value}
end
end Go.Proofs.YtmlpjffnmkndoaaGreatDoor

namespace Go.Proofs.YtmlpjffnmkndoaaGreatDoor
open Go.RowKit
set_option linter.unusedVariables false
set_option linter.unusedSimpArgs false
section
variable {α β : Type} [Rep α] [Rep β] {E : TypeId} {w0 W w' : World} {φ0 φ φ' : Phi} {aw : Option Addr} {cw : Nat} {ws : List β} {r1 r2 : Nat} {hd1 hd2 : Int → Option Hdr} {f1 f2 : Int → List α}
end
section
variable {α : Type} [Rep α] {E : TypeId} {B : Nat} {w0 w : World} {φ0 φ φ' : Phi} {r : Nat} {Rv : Nat → Prop} {hd : Int → Option Hdr} {f : Int → List α}
section
variable {P : Program} {T kt et : TypeId}
end
end
end Go.Proofs.YtmlpjffnmkndoaaGreatDoor

namespace Go.Proofs.YtmlpjffnmkndoaaGreatDoor
open Go.RowKit
set_option linter.unusedVariables false
set_option linter.unusedSimpArgs false
/-- A number's three cells. -/
structure Raw3 where
 g : Bool
 a1 : Option Addr
 k1 : Nat
 c1 : Nat
 a2 : Option Addr
 k2 : Nat
 c2 : Nat
def Raw3.v (x : Raw3) : Value := .agg #[.bool x.g, .slice x.a1 x.k1 x.c1, .slice x.a2 x.k2 x.c2]
instance : Rep Raw3 where
 size := 3
 rep := fun _ x cs => cs = [.bool x.g, .slice x.a1 x.k1 x.c1, .slice x.a2 x.k2 x.c2]
 len := by intro _ _ _ h; subst h; rfl
 mono := fun _ h => h
 one := by
  intro _ _ _ h u hu
  subst h
  simp at hu
  rcases hu with rfl | rfl | rfl <;> rfl
def raw0 : Raw3 := ⟨false, none, 0, 0, none, 0, 0⟩
theorem Own.setE {α : Type} [Rep α] {B : Nat} {w0 w : World} {φ0 φ : Phi} {E : TypeId} {g : Nat} {cap : Nat} {xs : List α} (h : Own B φ w E (some ⟨g, 0, none⟩) cap xs) (hi : Inv B w0 φ0 φ w) {k : Nat} (hk : k < xs.length) {y : α} {j : Nat} {u : Value} (hj : j < Rep.size α) (hy : ∀ cs, Rep.rep φ xs[k] cs → Rep.rep φ y (cs.set j u)) :
  Own B φ (w.setCell ⟨g, k * Rep.size α + j, none⟩ u) E (some ⟨g, 0, none⟩) cap (xs.set k y) ∧ Inv B w0 φ0 φ (w.setCell ⟨g, k * Rep.size α + j, none⟩ u) := by
 obtain ⟨g', hg', h1, h2, h3, h4, hc⟩ := h.elem hk
 cases hg'
 obtain ⟨cs, e1, hcs⟩ := hc k hk
 have hl : cs.length = Rep.size α := Rep.len e1
 exact h.setCell hi hk hcs hl (by omega) (hy cs e1)
theorem Own.rawD {B : Nat} {φ : Phi} {w : World} {E : TypeId} {a : Option Addr} {cap : Nat} {xs : List Raw3} (h : Own B φ w E a cap xs) {k n : Nat} (hn : Hid (xs.length = n)) (hk : k < n) :
  ∃ g, a = some ⟨g, 0, none⟩ ∧ B ≤ g ∧ g < w.heap.size ∧ φ g = none ∧ w.cell? ⟨g, k * 3, none⟩ = some (.bool (xs.getD k raw0).g) ∧ w.cell? ⟨g, k * 3 + 1, none⟩ = some (.slice (xs.getD k raw0).a1 (xs.getD k raw0).k1 (xs.getD k raw0).c1) ∧ w.cell? ⟨g, k * 3 + 2, none⟩ = some (.slice (xs.getD k raw0).a2 (xs.getD k raw0).k2 (xs.getD k raw0).c2) ∧ (∀ j, w.frozen? ⟨g, j, none⟩ = false) ∧
   ∀ (y : Raw3) w0 φ0, Inv B w0 φ0 φ w → Own B φ (((w.setCell ⟨g, k * 3, none⟩ (.bool y.g)).setCell ⟨g, k * 3 + 1, none⟩ (.slice y.a1 y.k1 y.c1)).setCell ⟨g, k * 3 + 2, none⟩ (.slice y.a2 y.k2 y.c2)) E a cap (xs.set k y) ∧ Inv B w0 φ0 φ (((w.setCell ⟨g, k * 3, none⟩ (.bool y.g)).setCell ⟨g, k * 3 + 1, none⟩ (.slice y.a1 y.k1 y.c1)).setCell ⟨g, k * 3 + 2, none⟩ (.slice y.a2 y.k2 y.c2)) := by
 have hk' : k < xs.length := by rw [hn.out]; exact hk
 obtain ⟨g, rfl, h1, h2, h3, h4, hc⟩ := h.elem hk'
 obtain ⟨cs, e1, hj⟩ := hc k hk'
 have hs : Rep.size Raw3 = 3 := rfl
 rw [getD_elem0 _ _ _ hk']
 have e1' : cs = [.bool xs[k].g, .slice xs[k].a1 xs[k].k1 xs[k].c1, .slice xs[k].a2 xs[k].k2 xs[k].c2] := e1
 subst e1'
 have j0 := hj 0 (by simp)
 have j1 := hj 1 (by simp)
 have j2 := hj 2 (by simp)
 rw [hs] at j0 j1 j2
 refine ⟨g, rfl, h1, h2, h3, j0, j1, j2, h4, fun y w0 φ0 hi => ?_⟩
 obtain ⟨o1, i1⟩ := h.setE hi hk' (y := ⟨y.g, xs[k].a1, xs[k].k1, xs[k].c1, xs[k].a2, xs[k].k2, xs[k].c2⟩) (j := 0) (u := .bool y.g) (by rw [hs]; omega) (fun cs hcs => by
  have : cs = [.bool xs[k].g, .slice xs[k].a1 xs[k].k1 xs[k].c1, .slice xs[k].a2 xs[k].k2 xs[k].c2] := hcs
  subst this; rfl)
 obtain ⟨o2, i2⟩ := o1.setE i1 (k := k) (by rw [List.length_set]; exact hk') (y := ⟨y.g, y.a1, y.k1, y.c1, xs[k].a2, xs[k].k2, xs[k].c2⟩) (j := 1) (u := .slice y.a1 y.k1 y.c1) (by rw [hs]; omega) (fun cs hcs => by
  rw [List.getElem_set_self] at hcs
  have : cs = [.bool y.g, .slice xs[k].a1 xs[k].k1 xs[k].c1, .slice xs[k].a2 xs[k].k2 xs[k].c2] := hcs
  subst this; rfl)
 rw [List.set_set] at o2
 obtain ⟨o3, i3⟩ := o2.setE i2 (k := k) (by rw [List.length_set]; exact hk') (y := y) (j := 2) (u := .slice y.a2 y.k2 y.c2) (by rw [hs]; omega) (fun cs hcs => by
  rw [List.getElem_set_self] at hcs
  have : cs = [.bool y.g, .slice y.a1 y.k1 y.c1, .slice xs[k].a2 xs[k].k2 xs[k].c2] := hcs
  subst this; rfl)
 rw [List.set_set] at o3
 exact ⟨o3, i3⟩
/-- Numbers as their cells. -/
def RawX (φ : Phi) (N D : Nat) : List Raw3 → List Rat → Prop
 | [], [] => True
 | r :: rs, x :: xs => FfX φ r.v x N D ∧ RawX φ N D rs xs
 | _, _ => False
theorem RawX.len {φ : Phi} {N D : Nat} : ∀ {rs : List Raw3} {xs : List Rat}, RawX φ N D rs xs → rs.length = xs.length
 | [], [], _ => rfl
 | r :: rs, x :: xs, h => by rw [List.length_cons, List.length_cons, RawX.len h.2]
theorem RawX.mono {φ φ' : Phi} {N D : Nat} (hl : φ.le φ') : ∀ {rs : List Raw3} {xs : List Rat}, RawX φ N D rs xs → RawX φ' N D rs xs
 | [], [], _ => trivial
 | r :: rs, x :: xs, h => ⟨h.1.mono hl, RawX.mono hl h.2⟩
theorem RawX.le {φ : Phi} {N D N' D' : Nat} (h1 : N ≤ N') (h2 : D ≤ D') : ∀ {rs : List Raw3} {xs : List Rat}, RawX φ N D rs xs → RawX φ N' D' rs xs
 | [], [], _ => trivial
 | r :: rs, x :: xs, h => ⟨h.1.le h1 h2, RawX.le h1 h2 h.2⟩
theorem RawX.get {φ : Phi} {N D : Nat} : ∀ {rs : List Raw3} {xs : List Rat}, RawX φ N D rs xs → ∀ k, k < rs.length → FfX φ (rs.getD k raw0).v (xs.getD k 0) N D
  | [], _, _, k, hk => absurd hk (Nat.not_lt_zero k)
  | r :: rs, [], h, _, _ => h.elim
  | r :: rs, x :: xs, h, 0, _ => h.1
  | r :: rs, x :: xs, h, k + 1, hk => by
    have := RawX.get h.2 k (by simpa using hk)
    simpa using this
theorem RawX.set {φ : Phi} {N D : Nat} {r : Raw3} {x : Rat} (hx : FfX φ r.v x N D) : ∀ {rs : List Raw3} {xs : List Rat}, RawX φ N D rs xs → ∀ k, RawX φ N D (rs.set k r) (xs.set k x)
 | [], [], _, _ => trivial
 | r' :: rs, x' :: xs, h, 0 => ⟨hx, h.2⟩
 | r' :: rs, x' :: xs, h, k + 1 => ⟨h.1, RawX.set hx h.2 k⟩
theorem repL_raw {φ : Phi} {N D : Nat} : ∀ {xs : List (Fx N D)} {cells : List Value}, RepL φ xs cells → ∃ rs : List Raw3, RepL φ rs cells ∧ RawX φ N D rs (xs.map Fx.x)
  | [], cells, h => ⟨[], h, trivial⟩
  | x :: xs, cells, h => by
    obtain ⟨cs, rest, rfl, ⟨g, a1, k1, c1, a2, k2, c2, rfl, hx⟩, hr⟩ := h
    obtain ⟨rs, h1, h2⟩ := repL_raw hr
    exact ⟨⟨g, a1, k1, c1, a2, k2, c2⟩ :: rs, ⟨_, rest, rfl, rfl, h1⟩, hx, h2⟩
theorem rawL_fx {φ : Phi} {N D : Nat} : ∀ {rs : List Raw3} {xs : List Rat} {cells : List Value}, RepL φ rs cells → RawX φ N D rs xs → RepL φ (xs.map (Fx.mk (N := N) (D := D))) cells
  | [], [], cells, h, _ => h
  | r :: rs, x :: xs, cells, h, hx => by
    obtain ⟨cs, rest, rfl, hr, h2⟩ := h
    have hr : cs = [.bool r.g, .slice r.a1 r.k1 r.c1, .slice r.a2 r.k2 r.c2] := hr
    subst hr
    exact ⟨_, rest, rfl, ⟨r.g, r.a1, r.k1, r.c1, r.a2, r.k2, r.c2, rfl, hx.1⟩, rawL_fx h2 hx.2⟩
theorem Own.raw {B : Nat} {φ : Phi} {w : World} {E : TypeId} {a : Option Addr} {cap N D : Nat} {xs : List (Fx N D)} (h : Own B φ w E a cap xs) : ∃ rs : List Raw3, rs.length = xs.length ∧ Own B φ w E a cap rs ∧ RawX φ N D rs (xs.map Fx.x) := by
 obtain ⟨cells, h1, h2⟩ := h.row
 obtain ⟨rs, h3, h4⟩ := repL_raw h2
 have hl : rs.length = xs.length := by have := h4.len; rw [List.length_map] at this; exact this
 exact ⟨rs, hl, ⟨⟨cells, by rw [hl]; exact h1, h3⟩, h.free⟩, h4⟩
theorem Own.fx {B : Nat} {φ : Phi} {w : World} {E : TypeId} {a : Option Addr} {cap N D : Nat} {rs : List Raw3} {xs : List Rat} (h : Own B φ w E a cap rs) (hx : RawX φ N D rs xs) : Own B φ w E a cap (xs.map (Fx.mk (N := N) (D := D))) := by
 obtain ⟨cells, h1, h2⟩ := h.row
 exact ⟨⟨cells, by rw [List.length_map, ← hx.len]; exact h1, rawL_fx h2 hx⟩, h.free⟩
end Go.Proofs.YtmlpjffnmkndoaaGreatDoor
