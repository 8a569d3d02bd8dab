/- The plain law of lists of ratios. Conditions: none; plain Lean. -/
import Derived.Test.YtdlnhmcgnpjooaaGreatDoorJ1
namespace Go.Proofs.YtdlnhmcgnpjooaaGreatDoor
open Go.RowKit
set_option linter.unusedVariables false
/-- The error of an exact number as a ratio. -/
noncomputable def shtF (x : Rat) : Int := (ratR x).2.2
noncomputable def shtT (x : Rat) : Rti := ((ratR x).1, (ratR x).2.1)
/-- Exact numbers as ratios. -/
noncomputable def shtR (xs : List Rat) : List Rti × Int :=
  if scan (fun i => shtF (xs.getD i 0)) xs.length = 0 then (xs.map shtT, 0) else ([], scan (fun i => shtF (xs.getD i 0)) xs.length)
theorem shtR_err {xs : List Rat} {k n : Nat} (hn : xs.length = n) (hk : k < n) (h0 : ∀ i, i < k → shtF (xs.getD i 0) = 0) {g : Int} (hg : shtF (xs.getD k 0) = g) (hne : g ≠ 0) : shtR xs = ([], g) := by
  subst hn
  have e := scan_stop (f := fun i => shtF (xs.getD i 0)) h0 hk (by show shtF (xs.getD k 0) ≠ 0; rw [hg]; exact hne)
  have e2 : scan (fun i => shtF (xs.getD i 0)) xs.length = g := e.trans hg
  unfold shtR
  rw [e2, if_neg hne]
theorem shtR_ok {xs : List Rat} {n : Nat} (hn : xs.length = n) (h0 : ∀ i, i < n → shtF (xs.getD i 0) = 0) : shtR xs = (xs.map shtT, 0) := by
  subst hn
  have e : scan (fun i => shtF (xs.getD i 0)) xs.length = 0 := scan_zero _ _ h0
  unfold shtR
  rw [e, if_pos rfl]
end Go.Proofs.YtdlnhmcgnpjooaaGreatDoor
