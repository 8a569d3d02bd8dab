/- A slice of the call's own in a captured cell, next to a row that is written; the walks of the closure of first, and of first. Conditions: none beyond what the claim form gives. -/
import Derived.Test.YtambgcijceecpaaDoorE12
import Derived.Deep.RegionWith
namespace Go.Proofs.YtambgcijceecpaaDoor
open Go.RowKit
set_option linter.unusedVariables false

theorem RepL.ints {φ ψ : Phi} : ∀ {xs : List Int} {cs : List Value}, RepL φ xs cs → RepL ψ xs cs
  | [], _, h => h
  | x :: xs, _, ⟨c, r, e, h1, h2⟩ => ⟨c, r, e, h1, RepL.ints h2⟩
theorem Own.ints {B : Nat} {φ ψ : Phi} {w : World} {E : TypeId} {a : Option Addr} {cap : Nat} {xs : List Int} (h : Own B φ w E a cap xs) (hf : ∀ x, a = some x → ψ x.block = none) : Own B ψ w E a cap xs := by
  obtain ⟨⟨cells, h1, h2⟩, _⟩ := h
  exact ⟨⟨cells, h1, h2.ints⟩, hf⟩
theorem Fz.new_none {φ : Phi} {w : World} (h : Fz φ w) {b : Nat} (hb : w.heap.size ≤ b) : φ b = none := by
  cases hφ : φ b with
  | none => rfl
  | some o => have := h.mlt hφ; omega
theorem grown_set (w : World) (g k : Nat) (v : Value) : w.grownBy (w.setCell ⟨g, k, none⟩ v) (some g) := ⟨rfl, rfl, rfl, by simp [World.setCell], fun k _ hk => Below.heap_setCell _ _ _ _ (by intro e; exact hk (by rw [e]))⟩
theorem Inv.toSelf {B : Nat} {w0 w : World} {φ0 φ : Phi} (h : Inv B w0 φ0 φ w) : Inv B w0 φ φ w := ⟨h.bel, h.base, h.fz, φ.le_refl, fun _ _ => rfl⟩
/-- A captured cell (block bo) holds a slice that reads as s; row g may be written. -/
structure HoldS (B : Nat) (w0 : World) (φ : Phi) (g bo : Nat) (T : TypeId) (s : List Int) (w : World) : Prop where
  inv : Inv B w0 φ φ w
  ex : ∃ φ3 a cap, φ.le φ3 ∧ Fz φ3 w ∧ (∀ b, b ≤ g → φ b = none → φ3 b = none) ∧ SlV φ3 a cap s ∧ Blk w bo #[.slice a s.length cap] T
  fg : φ g = none
  fo : φ bo = none
  lo : B ≤ bo
  lt : bo < g
  gw : g < w.heap.size
section
variable {B : Nat} {w0 w w' : World} {φ : Phi} {g bo : Nat} {T : TypeId} {s : List Int}
theorem HoldS.callB (h : HoldS B w0 φ g bo T s w) (hb : Below w.heap.size w w') : HoldS B w0 φ g bo T s w' := by
  obtain ⟨φ3, a, cap, h1, h2, h3, h4, h5⟩ := h.ex
  exact ⟨h.inv.callB hb, ⟨φ3, a, cap, h1, h2.below hb, h3, h4, h5.callB hb⟩, h.fg, h.fo, h.lo, h.lt, Nat.lt_of_lt_of_le h.gw hb.size⟩
/-- A store into another block up to g. -/
theorem HoldS.set (h : HoldS B w0 φ g bo T s w) {b k : Nat} (hb : b ≤ g) (hl : B ≤ b) (hφ : φ b = none) (hne : b ≠ bo) (v : Value) : HoldS B w0 φ g bo T s (w.setCell ⟨b, k, none⟩ v) := by
  obtain ⟨φ3, a, cap, h1, h2, h3, h4, h5⟩ := h.ex
  refine ⟨h.inv.setCell hl hφ v, ⟨φ3, a, cap, h1, fun x o hx => ?_, h3, h4, h5.other hne v⟩, h.fg, h.fo, h.lo, h.lt, by have := h.gw; simpa [World.setCell] using this⟩
  have hn := h3 b hb hφ
  exact ((grown_set w b k v).block x (h2.mlt hx) (fun e => by cases e; rw [hn] at hx; cases hx)).trans (h2 x o hx)
theorem HoldS.row (h : HoldS B w0 φ g bo T s w) (k : Nat) (v : Value) : HoldS B w0 φ g bo T s (w.setCell ⟨g, k, none⟩ v) :=
  h.set (Nat.le_refl _) (by have := h.lo; have := h.lt; omega) h.fg (by have := h.lt; omega) v
/-- Another slice is laid into the cell. -/
theorem HoldS.put (h : HoldS B w0 φ g bo T s w) (hb : Below w.heap.size w w') {ψ : Phi} {a : Option Addr} {c : Nat} {l : List Int} (ho : Own w.heap.size ψ w' 3 a c l) : HoldS B w0 φ g bo T l (w'.setCell ⟨bo, 0, none⟩ (.slice a l.length c)) := by
  have hgw := h.gw
  have hlt := h.lt
  have hk := (Inv.start h.inv.fz).callB hb
  have ho' := ho.ints (ψ := φ) (fun x hx => h.inv.fz.new_none (ho.lt x hx).1)
  obtain ⟨φ3, h1, h2, h3, h4⟩ := ho'.release hk
  have hn : ∀ b, b ≤ g → φ b = none → φ3 b = none := fun b hbg hφ => (h2.new b (by omega)).trans hφ
  obtain ⟨_, a0, cap0, _, _, _, _, h5⟩ := h.ex
  have h5' := h5.callB hb
  refine ⟨(h.inv.callB hb).setCell h.lo h.fo _, ⟨φ3, a, c, h1, fun x o hx => ?_, hn, h3, h5'.set 0 _⟩, h.fg, h.fo, h.lo, h.lt, ?_⟩
  · exact ((grown_set w' bo 0 _).block x (h2.fz.mlt hx) (fun e => by cases e; rw [hn bo (by omega) h.fo] at hx; cases hx)).trans (h2.fz x o hx)
  · have := hb.size
    have e : (w'.setCell ⟨bo, 0, none⟩ (.slice a l.length c)).heap.size = w'.heap.size := by simp [World.setCell]
    omega
/-- The cell, at the start: nil. -/
theorem HoldS.start (hi : Inv B w0 φ φ w) (h5 : Blk w bo #[.slice none 0 0] T) (fg : φ g = none) (fo : φ bo = none) (lo : B ≤ bo) (lt : bo < g) (gw : g < w.heap.size) : HoldS B w0 φ g bo T [] w :=
  ⟨hi, ⟨φ, none, 0, φ.le_refl, hi.fz, fun _ _ h => h, SlV.empty _, h5⟩, fg, fo, lo, lt, gw⟩
/-- What the cell holds in the end. -/
theorem HoldS.out (h : HoldS B w0 φ g bo T s w) : ∃ φ3 a cap, φ.le φ3 ∧ Inv B w0 φ φ3 w ∧ SlV φ3 a cap s ∧ Blk w bo #[.slice a s.length cap] T := by
  obtain ⟨φ3, a, cap, h1, h2, h3, h4, h5⟩ := h.ex
  refine ⟨φ3, a, cap, h1, ⟨h.inv.bel, h.inv.base, h2, h1, fun b hb => ?_⟩, h4, h5⟩
  have := h.lo; have := h.lt
  cases hφ : φ b with
  | none => exact h3 b (by omega) hφ
  | some o => exact h1 b o hφ
end
/-- The state of first's closure. -/
structure FiJ (B : Nat) (w0 : World) (φ : Phi) (br g b1 b2 : Nat) (s : List Int) (w : World) : Prop where
  h : HoldS B w0 φ g b2 26 s w
  k : Blk w b1 #[.pointer (some ⟨br, 0, none⟩)] 54
  lt : b1 < b2
theorem FiJ.row {B : Nat} {w0 w : World} {φ : Phi} {br g b1 b2 : Nat} {s : List Int} (h : FiJ B w0 φ br g b1 b2 s w) (k : Nat) (v : Value) : FiJ B w0 φ br g b1 b2 s (w.setCell ⟨g, k, none⟩ v) :=
  ⟨h.h.row k v, h.k.other (by have := h.lt; have := h.h.lt; show g ≠ b1; omega) v, h.lt⟩
theorem FiJ.callB {B : Nat} {w0 w w' : World} {φ : Phi} {br g b1 b2 : Nat} {s : List Int} (h : FiJ B w0 φ br g b1 b2 s w) (hb : Below w.heap.size w w') : FiJ B w0 φ br g b1 b2 s w' := ⟨h.h.callB hb, h.k.callB hb, h.lt⟩
theorem FiJ.put {B : Nat} {w0 w w' : World} {φ : Phi} {br g b1 b2 : Nat} {s : List Int} (h : FiJ B w0 φ br g b1 b2 s w) (hb : Below w.heap.size w w') {ψ : Phi} {a : Option Addr} {c : Nat} {l : List Int} (ho : Own w.heap.size ψ w' 3 a c l) : FiJ B w0 φ br g b1 b2 l (w'.setCell ⟨b2, 0, none⟩ (.slice a l.length c)) :=
  ⟨h.h.put hb ho, (h.k.callB hb).other (by have := h.lt; show b2 ≠ b1; omega) _, h.lt⟩
def VisPost {σ : Type} (J : σ → World → Prop) (B : Nat) (φ : Phi) (g c : Nat) (x : List Int) (q : σ × Bool) (e : Ending) (w' : World) : Prop :=
  e = .returned (.bool q.2) ∧ J q.1 w' ∧ Own B φ w' 3 (some ⟨g, 0, none⟩) c x
theorem firstC_any
  {φ : Phi} {br : Nat} {fs : List Fld} {es : List Edt} {n m : Nat} {a : Option Addr} {cap : Nat} {ae : Option Addr} {ce : Nat} {ab : Option Addr} {cb : Nat} (R : RulV φ br fs es n m a cap ae ce ab cb)
    {B : Nat} {w0 : World} {g b1 b2 c : Nat} (x s : List Int) (w : World) (hx : Hid (x.length = n)) (hJ : FiJ B w0 φ br g b1 b2 s w) (hO : Own B φ w 3 (some ⟨g, 0, none⟩) c x) :
    Calls Tryd.prog 70 #[.slice (some ⟨g, 0, none⟩) n c, .pointer (some ⟨b1, 0, none⟩), .pointer (some ⟨b2, 0, none⟩)] w (VisPost (FiJ B w0 φ br g b1 b2) B φ g c x (firstV fs es n m x s)) := by
  have hn12 := R.ok.pos
  obtain ⟨φx, hle, hix, sx, _⟩ := hO.release hJ.h.inv
  have Rx := R.mono hle
  have JH := Lib.hid hJ
  have OH := Lib.hid hO
  have c1 : w.cell? ⟨b1, 0, none⟩ = some (.pointer (some ⟨br, 0, none⟩)) := hJ.k.cell 0
  have hfx := Lib.hid hix.fz
  obtain ⟨p, hp⟩ : ∃ p, Hid (passB fs es x n m = p) := ⟨_, Lib.hid rfl⟩
  obtain ⟨q, hq⟩ : ∃ q, Hid (firstV fs es n m x s = q) := ⟨_, Lib.hid rfl⟩
  rw [hq.out]
  clear hJ hO hle hix
  cases p
  case false =>
    have hq2 : q = (s, false) := by rw [← hq.out, firstV, hp.out]; rfl
    have HQ := Lib.hid hq2
    clear hq2
    go_enter Tryd.func70, Tryd.ntmps70
    go_wp2_with (go_at_call 34; refine (passes_any Rx w hfx.out _ c x sx hx hp).mono ?_; rintro e w' ⟨rfl, hb⟩)
    go_ret
    rw [HQ.out]
    exact ⟨rfl, JH.out.callB hb, OH.out.callB hb⟩
  case true =>
    have hq2 : q = (x, true) := by rw [← hq.out, firstV, hp.out]; rfl
    have HQ := Lib.hid hq2
    clear hq2
    go_enter Tryd.func70, Tryd.ntmps70
    go_wp2_with fail
    refine (passes_any Rx w hfx.out _ c x sx hx hp).mono ?_
    rintro e w1 ⟨rfl, hb⟩
    have HB := Lib.hid hb
    clear hb c1
    go_wp2_with fail
    refine (Clone_any (hfx.out.below HB.out) sx hx (by omega)).mono ?_
    rintro e w2 ⟨a2, c2, rfl, hi2, ho2⟩
    have hb2 := Lib.hid (HB.out.trans (hi2.bel.mono HB.out.size))
    have ho3 := Lib.hid (ho2.base HB.out.size)
    have h2 := JH.out.callB hb2.out
    obtain ⟨_, a0, cap0, _, _, _, _, k5⟩ := h2.h.ex
    have k6 : w2.cell? ⟨b2, 0, none⟩ = some (.slice a0 s.length cap0) := k5.cell 0
    have k7 : w2.frozen? ⟨b2, 0, none⟩ = false := k5.frz 0
    clear hi2 ho2 h2 k5
    go_wp2
    go_ret
    rw [HQ.out]
    have hlt := JH.out.h.lt
    exact ⟨rfl, JH.out.put hb2.out ho3.out, (OH.out.callB hb2.out).other (grown_set _ _ _ _) (fun y hy e => by cases hy; have e2 : g = b2 := Option.some.inj e; omega)⟩
end Go.Proofs.YtambgcijceecpaaDoor
