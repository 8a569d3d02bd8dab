/- Words for stores into a result's cells. Conditions: none; plain Lean. -/
import Derived.Test.YtafcecgcmaoakaaDoorA3
namespace Go.Proofs.YtafcecgcmaoakaaDoor
open Go.RowKit
theorem keep1 {w : World} {a x : Addr} {v u : Value} (h : w.cell? a = some v) (hne : x.block ≠ a.block) : (w.setCell x u).cell? a = some v := by
  rw [World.cell?_setCell_other]
  · exact h
  · intro e; exact hne (by rw [e])
theorem keep2 {w : World} {a : Addr} {v u0 u1 : Value} {g : Nat} (h : w.cell? a = some v) (hne : g ≠ a.block) : ((w.setCell ⟨g, 0, none⟩ u0).setCell ⟨g, 1, none⟩ u1).cell? a = some v := keep1 (keep1 h hne) hne
theorem keep3 {w : World} {a : Addr} {v u0 u1 u2 : Value} {g : Nat} (h : w.cell? a = some v) (hne : g ≠ a.block) : (((w.setCell ⟨g, 0, none⟩ u0).setCell ⟨g, 1, none⟩ u1).setCell ⟨g, 2, none⟩ u2).cell? a = some v := keep1 (keep1 (keep1 h hne) hne) hne
end Go.Proofs.YtafcecgcmaoakaaDoor
