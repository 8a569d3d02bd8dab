/- The walk of the program's Bases. Conditions: the library's table of powers of ten reads as it was laid. -/
import Derived.Test.YtmlpjffnmkndoaaGreatDoorJ1
import Derived.Test.YtmlpjffnmkndoaaGreatDoorP17
namespace Go.Proofs.YtmlpjffnmkndoaaGreatDoor
open Go.RowKit
set_option linter.unusedVariables false
set_option linter.unusedSimpArgs false
theorem basesR_err {l : List Pck} {k n : Nat} (hn : l.length = n) (h : n ≤ 3000) (hk : k < n) (h0 : ∀ i, i < k → basF (l.getD i pck0) = 0) {g : Int} (hg : basF (l.getD k pck0) = g) (hne : g ≠ 0) : basesR l = ([], g) := by
  subst hn
  have e := scan_stop (f := fun i => basF (l.getD i pck0)) h0 hk (by show basF (l.getD k pck0) ≠ 0; rw [hg]; exact hne)
  unfold basesR
  rw [if_neg (by omega), e, if_pos (by show basF (l.getD k pck0) ≠ 0; rw [hg]; exact hne)]
  show ([], basF (l.getD k pck0)) = _
  rw [hg]
theorem basesR_ok {l : List Pck} {n : Nat} (hn : l.length = n) (h : n ≤ 3000) (h0 : ∀ i, i < n → basF (l.getD i pck0) = 0) : basesR l = (l.map basT, 0) := by
  subst hn
  unfold basesR
  rw [if_neg (by omega), scan_zero _ _ h0, if_neg (by simp)]
theorem basF_sho {s t : ByteArray} {id g : Int} (h : shoF s t = g) (hg : g ≠ 0) : basF (id, s, t) = g := by
  unfold basF
  show (if shoF s t ≠ 0 then shoF s t else qF (ratX s t)) = g
  rw [h, if_pos hg]
theorem basF_q {s t : ByteArray} {id : Int} (h : shoF s t = 0) : basF (id, s, t) = qF (ratX s t) := by
  unfold basF
  show (if shoF s t ≠ 0 then shoF s t else qF (ratX s t)) = _
  rw [h, if_neg (by simp)]
theorem sgI_le {x : Rat} : sgI x ≤ 0 ↔ x ≤ 0 := by
  unfold sgI
  by_cases h0 : x = 0
  · rw [if_pos h0]; simp [h0]
  · rw [if_neg h0]
    by_cases h1 : x < 0
    · rw [if_pos h1]; exact ⟨fun _ => by grind, fun _ => by decide⟩
    · rw [if_neg h1]; exact ⟨fun h => absurd h (by decide), fun h => absurd h (by grind)⟩
theorem cmpQ_gt {x y : Rat} : 0 < cmpQ x y ↔ y < x := by
  unfold cmpQ
  by_cases h0 : x < y
  · rw [if_pos h0]; exact ⟨fun h => absurd h (by decide), fun h => absurd h (by grind)⟩
  · rw [if_neg h0]
    by_cases h1 : x = y
    · rw [if_pos h1]; exact ⟨fun h => absurd h (by decide), fun h => absurd h (by grind)⟩
    · rw [if_neg h1]; exact ⟨fun _ => by grind, fun _ => by decide⟩
end Go.Proofs.YtmlpjffnmkndoaaGreatDoor
