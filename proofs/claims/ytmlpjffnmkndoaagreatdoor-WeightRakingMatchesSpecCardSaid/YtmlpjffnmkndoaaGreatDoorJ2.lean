/- The walk of the program's Bases. Conditions: the library's table of powers of ten reads as it was laid. -/
import Derived.Test.YtmlpjffnmkndoaaGreatDoorJ1
import Derived.Test.YtmlpjffnmkndoaaGreatDoorP17
namespace Go.Proofs.YtmlpjffnmkndoaaGreatDoor
open Go.RowKit
set_option linter.unusedVariables false
set_option linter.unusedSimpArgs false
theorem sgI_le {x : Rat} : sgI x ≤ 0 ↔ x ≤ 0 := by
 unfold sgI
 by_cases h0 : x = 0
 ·rw [if_pos h0]; simp [h0]
 ·rw [if_neg h0]
  by_cases h1 : x < 0
  ·rw [if_pos h1]; exact ⟨fun _ => by grind, fun _ => by decide⟩
  ·rw [if_neg h1]; exact ⟨fun h => absurd h (by decide), fun h => absurd h (by grind)⟩
theorem cmpQ_gt {x y : Rat} : 0 < cmpQ x y ↔ y < x := by
 unfold cmpQ
 by_cases h0 : x < y
 ·rw [if_pos h0]; exact ⟨fun h => absurd h (by decide), fun h => absurd h (by grind)⟩
 ·rw [if_neg h0]
  by_cases h1 : x = y
  ·rw [if_pos h1]; exact ⟨fun h => absurd h (by decide), fun h => absurd h (by grind)⟩
  ·rw [if_neg h1]; exact ⟨fun _ => by grind, fun _ => by decide⟩
end Go.Proofs.YtmlpjffnmkndoaaGreatDoor
