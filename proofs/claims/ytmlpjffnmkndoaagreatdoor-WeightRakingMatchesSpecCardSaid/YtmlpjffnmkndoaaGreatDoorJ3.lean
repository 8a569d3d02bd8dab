/- The walk of the reference's Bases. Conditions: the library's table of powers of ten reads as it was laid. -/
import Derived.Test.YtmlpjffnmkndoaaGreatDoorJ2
import Derived.Test.YtmlpjffnmkndoaaGreatDoorB22
import Derived.Test.YtmlpjffnmkndoaaGreatDoorB23
import Derived.Test.YtmlpjffnmkndoaaGreatDoorBB
namespace Go.Proofs.YtmlpjffnmkndoaaGreatDoor
open Go.RowKit
set_option linter.unusedVariables false
set_option linter.unusedSimpArgs false
theorem cmpQ_le {x y : Rat} : cmpQ x y ≤ 0 ↔ x ≤ y := by
 unfold cmpQ
 by_cases h0 : x < y
 ·rw [if_pos h0]; exact ⟨fun _ => by grind, fun _ => by decide⟩
 ·rw [if_neg h0]
  by_cases h1 : x = y
  ·rw [if_pos h1]; exact ⟨fun _ => by grind, fun _ => by decide⟩
  ·rw [if_neg h1]; exact ⟨fun h => absurd h (by decide), fun h => absurd h (by grind)⟩
section
variable {w0 W w' : World} {φ0 φ φ' : Phi} {x : Nat} {o : Option Nat}
end
end Go.Proofs.YtmlpjffnmkndoaaGreatDoor
