/- The program's natural numbers: the walk of plus. The program's natural numbers: the walk of minus. The program's exact numbers as rationals; the walks of FracPart, FracInt, Sign and Ratio. Conditions: the library's table of powers of ten reads as it was laid. The program's exact numbers: the walk of plus of fractions. Conditions: none beyond what the claim form gives. -/
import Derived.Test.YtnlhalnjbkpdnaaGreatDoorNA
import Derived.Test.YtnlhalnjbkpdnaaGreatDoorPB
import Derived.Test.YtnlhalnjbkpdnaaGreatDoorAB
import Derived.Deep.RegionHeld3
namespace Go.Proofs.YtnlhalnjbkpdnaaGreatDoor
open Go.RowKit
set_option linter.unusedVariables false
set_option linter.unusedSimpArgs false
end Go.Proofs.YtnlhalnjbkpdnaaGreatDoor

namespace Go.Proofs.YtnlhalnjbkpdnaaGreatDoor
open Go.RowKit
set_option linter.unusedVariables false
set_option linter.unusedSimpArgs false
end Go.Proofs.YtnlhalnjbkpdnaaGreatDoor

namespace Go.Proofs.YtnlhalnjbkpdnaaGreatDoor
open Go.RowKit
set_option linter.unusedVariables false
set_option linter.unusedSimpArgs false
/-- A value that reads as a fraction of the program's; its numerator and denominator are at most N and D. -/
def FfX (φ : Phi) (v : Value) (x : Rat) (N D : Nat) : Prop := ∃ (neg : Bool) (n d : Nat) (a1 : Option Addr) (c1 : Nat) (a2 : Option Addr) (c2 : Nat),
  v = .agg #[.bool neg, .slice a1 (limbs n).length c1, .slice a2 (limbs d).length c2] ∧ SlV φ a1 c1 (limbs n) ∧ SlV φ a2 c2 (limbs d) ∧ 0 < d ∧ n ≤ N ∧ d ≤ D ∧ rat neg n d = x
theorem FfX.mono {φ φ' : Phi} {v : Value} {x : Rat} {N D : Nat} (h : FfX φ v x N D) (hl : φ.le φ') : FfX φ' v x N D := by
  obtain ⟨neg, n, d, a1, c1, a2, c2, rfl, s1, s2, r⟩ := h
  exact ⟨neg, n, d, a1, c1, a2, c2, rfl, s1.mono hl, s2.mono hl, r⟩
theorem FfX.le {φ : Phi} {v : Value} {x : Rat} {N D N' D' : Nat} (h : FfX φ v x N D) (h1 : N ≤ N') (h2 : D ≤ D') : FfX φ v x N' D' := by
  obtain ⟨neg, n, d, a1, c1, a2, c2, rfl, s1, s2, h0, hn, hd, r⟩ := h
  exact ⟨neg, n, d, a1, c1, a2, c2, rfl, s1, s2, h0, by omega, by omega, r⟩
theorem FfX.open {φ : Phi} {v : Value} {x : Rat} {N D : Nat} (h : FfX φ v x N D) : ∃ (neg : Bool) (n d k1 k2 : Nat) (a1 : Option Addr) (c1 : Nat) (a2 : Option Addr) (c2 : Nat),
    v = .agg #[.bool neg, .slice a1 k1 c1, .slice a2 k2 c2] ∧ SlV φ a1 c1 (limbs n) ∧ SlV φ a2 c2 (limbs d) ∧ Hid ((limbs n).length = k1) ∧ Hid ((limbs d).length = k2) ∧ 0 < d ∧ n ≤ N ∧ d ≤ D ∧ rat neg n d = x := by
  obtain ⟨neg, n, d, a1, c1, a2, c2, rfl, s1, s2, h⟩ := h
  exact ⟨neg, n, d, _, _, a1, c1, a2, c2, rfl, s1, s2, Lib.hid rfl, Lib.hid rfl, h⟩
/-- A call with a result's cell; φ1 is what was frozen at its start. -/
structure FpS (T : TypeId) (w0 : World) (φ0 φ1 φ : Phi) (b : Nat) (W : World) : Prop where
  rs : RsSt w0 φ0 φ b #[.bool false, .slice none 0 0, .slice none 0 0] T W
  le : φ1.le φ
section
variable {T : TypeId} {w0 W w' : World} {φ0 φ1 φ φ' : Phi} {b : Nat}
theorem FpS.call (h : FpS T w0 φ0 φ1 φ b W) (hi : Inv W.heap.size W φ φ' w') : FpS T w0 φ0 φ1 φ' b w' := ⟨h.rs.call hi, h.le.trans hi.le⟩
theorem FpS.callB (h : FpS T w0 φ0 φ1 φ b W) (hb : Below W.heap.size W w') : FpS T w0 φ0 φ1 φ b w' := ⟨h.rs.callB hb, h.le⟩
theorem FpS.fz (h : FpS T w0 φ0 φ1 φ b W) : Fz φ W := h.rs.inv.fz
end
end Go.Proofs.YtnlhalnjbkpdnaaGreatDoor

namespace Go.Proofs.YtnlhalnjbkpdnaaGreatDoor
open Go.RowKit
set_option linter.unusedVariables false
set_option linter.unusedSimpArgs false
/-- The cells of a frozen box of three. -/
theorem box3 {φ φ' : Phi} {W : World} {b : Nat} {T : TypeId} {u0 u1 u2 : Value} (hb : φ b = some (.cells #[u0, u1, u2] T)) (hl : φ.le φ') (hf : Fz φ' W) : W.cell? ⟨b, 0, none⟩ = some u0 ∧ W.cell? ⟨b, 1, none⟩ = some u1 ∧ W.cell? ⟨b, 2, none⟩ = some u2 := ⟨box_cell hb hl hf 0, box_cell hb hl hf 1, box_cell hb hl hf 2⟩
theorem and6 {a b c d e f : Prop} (h : a ∧ b ∧ c) (k : d ∧ e ∧ f) : a ∧ b ∧ c ∧ d ∧ e ∧ f := ⟨h.1, h.2.1, h.2.2, k⟩
end Go.Proofs.YtnlhalnjbkpdnaaGreatDoor
