/- The plain law of the spread of weights. Conditions: none; plain Lean. -/
import Derived.Test.YtdlnhmcgnpjooaaGreatDoorJA
import Derived.Test.YtdlnhmcgnpjooaaGreatDoorJ12a
import Derived.Test.YtdlnhmcgnpjooaaGreatDoorJ14a
import Derived.Test.YtdlnhmcgnpjooaaGreatDoorPD
namespace Go.Proofs.YtdlnhmcgnpjooaaGreatDoor
open Go.RowKit
set_option linter.unusedVariables false
/-- The least of the first k numbers, and the first one. -/
noncomputable def lowK (xs : List Rat) : Nat → Rat
  | 0 => xs.getD 0 0
  | k + 1 => if cmpQ (xs.getD k 0) (lowK xs k) < 0 then xs.getD k 0 else lowK xs k
noncomputable def topK (xs : List Rat) : Nat → Rat
  | 0 => xs.getD 0 0
  | k + 1 => if 0 < cmpQ (xs.getD k 0) (topK xs k) then xs.getD k 0 else topK xs k
theorem lowK_lt {xs : List Rat} {k : Nat} {q : Int} (h : cmpQ (xs.getD k 0) (lowK xs k) = q) (hq : q < 0) : lowK xs (k + 1) = xs.getD k 0 := by
  show (if cmpQ (xs.getD k 0) (lowK xs k) < 0 then xs.getD k 0 else lowK xs k) = _
  rw [h, if_pos hq]
theorem lowK_ge {xs : List Rat} {k : Nat} {q : Int} (h : cmpQ (xs.getD k 0) (lowK xs k) = q) (hq : ¬ q < 0) : lowK xs (k + 1) = lowK xs k := by
  show (if cmpQ (xs.getD k 0) (lowK xs k) < 0 then xs.getD k 0 else lowK xs k) = _
  rw [h, if_neg hq]
theorem topK_gt {xs : List Rat} {k : Nat} {q : Int} (h : cmpQ (xs.getD k 0) (topK xs k) = q) (hq : 0 < q) : topK xs (k + 1) = xs.getD k 0 := by
  show (if 0 < cmpQ (xs.getD k 0) (topK xs k) then xs.getD k 0 else topK xs k) = _
  rw [h, if_pos hq]
theorem topK_le {xs : List Rat} {k : Nat} {q : Int} (h : cmpQ (xs.getD k 0) (topK xs k) = q) (hq : ¬ 0 < q) : topK xs (k + 1) = topK xs k := by
  show (if 0 < cmpQ (xs.getD k 0) (topK xs k) then xs.getD k 0 else topK xs k) = _
  rw [h, if_neg hq]
theorem sumQ_pos : ∀ {xs : List Rat}, xs ≠ [] → (∀ x ∈ xs, 0 < x) → 0 < sumQ xs
  | [], h, _ => absurd rfl h
  | [x], _, h => by
    have := h x (by simp)
    show 0 < x + 0
    grind
  | x :: y :: ys, _, h => by
    have h1 := h x (by simp)
    have h2 := sumQ_pos (xs := y :: ys) (by simp) (fun z hz => h z (by simp at hz ⊢; exact .inr hz))
    show 0 < x + sumQ (y :: ys)
    grind
/-- The six numbers of a spread. -/
noncomputable def sprL (xs : List Rat) : List Rat :=
  [sumQ xs, lowK xs xs.length, topK xs xs.length, sumQ xs / (xs.length : Int), sumQ xs * sumQ xs / sumQ (xs.map (fun x => x * x)), (xs.length : Int) / (sumQ xs * sumQ xs / sumQ (xs.map (fun x => x * x)))]
/-- SpreadOf: the six ratios and the error. -/
noncomputable def sprR (l : List Psn) : List Rti × Int :=
  if pplF l ≠ 0 then ([], pplF l) else if l = [] then ([], 9) else shtR (sprL (l.map (fun p => ratX p.1.1 p.1.2)))
end Go.Proofs.YtdlnhmcgnpjooaaGreatDoor
