/- Plans as data. Conditions: none beyond what the claim form gives. -/
import Derived.Test.YtkfmadeeobalaaaDoorEC
namespace Go.Proofs.YtkfmadeeobalaaaDoor
open Go.RowKit
set_option linter.unusedVariables false
abbrev Plan := List Fld × List Edt
def PlanG (x : Plan) : Prop := (x.1.length * Tryd.prog.bytesOf 92 ≤ reachBytes ∧ ∀ y ∈ x.1, StrG y.1 ∧ (y.2.1.length * 8 ≤ reachBytes ∧ ∀ z ∈ y.2.1, IsI64 z) ∧ IsI64 y.2.2) ∧ (x.2.length * Tryd.prog.bytesOf 106 ≤ reachBytes ∧ ∀ y ∈ x.2, StrG y.1 ∧ (y.2.length * Tryd.prog.bytesOf 32 ≤ reachBytes ∧ ∀ z ∈ y.2, z.length * 8 ≤ reachBytes ∧ ∀ u ∈ z, IsI64 u))
theorem rPlan (H : Type) (enc : TypeId × Value → H) (W : World) : Reads enc Tryd.prog W 25 Plan PlanG :=
  Reads.struct2 (s1 := 1) (s2 := 1) Tryd.underlying25 (by kernel_rfl) (by kernel_rfl) (by kernel_rfl) (by kernel_rfl) (by kernel_rfl)
    (Reads.slice Tryd.underlying22 (by kernel_rfl) (by decide) (Reads.struct3 (s1 := 1) (s2 := 1) (s3 := 1) Tryd.underlying92 (by kernel_rfl) (by kernel_rfl) (by kernel_rfl) (by kernel_rfl) (by kernel_rfl) (by kernel_rfl) (by kernel_rfl) (rStr H enc W) (rInts H enc W) (rInt H enc W)))
    (Reads.slice Tryd.underlying23 (by kernel_rfl) (by decide) (Reads.struct2 (s1 := 1) (s2 := 1) Tryd.underlying106 (by kernel_rfl) (by kernel_rfl) (by kernel_rfl) (by kernel_rfl) (by kernel_rfl) (rStr H enc W) (Reads.slice Tryd.underlying26 (by kernel_rfl) (by decide) (rInts H enc W))))
/-- A plan of the claim form, taken apart. -/
structure PlanA (φ : Phi) (cs : Array Value) (fs : List Fld) (es : List Edt) (a : Option Addr) (cap : Nat) (ae : Option Addr) (ce : Nat) : Prop where
  e : cs = #[.slice a fs.length cap, .slice ae es.length ce]
  s : SlV φ a cap fs
  se : SlV φ ae ce es
  hm : fs.length ≤ 9223372036854775807
  hme : es.length ≤ 9223372036854775807
  hg : ∀ x ∈ fs, FldG x
  hge : ∀ x ∈ es, EdtG x
theorem plan_open {φ : Phi} {cs : Array Value} {x : Plan} (h : Rep.rep φ x cs.toList) (g : PlanG x) : ∃ a cap ae ce, PlanA φ cs x.1 x.2 a cap ae ce := by
  obtain ⟨c, d, hcd, ⟨a, cap, rfl, s⟩, ⟨ae, ce, rfl, se⟩⟩ := h
  refine ⟨a, cap, ae, ce, ?_, s, se, ?_, ?_, fun y hy => (g.1.2 y hy).1, fun y hy => (g.2.2 y hy).1⟩
  · apply Array.toList_inj.1; rw [hcd]; rfl
  · have := s.capn; have := s.capm; unfold maxLen at this; omega
  · have := se.capn; have := se.capm; unfold maxLen at this; omega
theorem ints_len {xs : List Int} (h : xs.length * 8 ≤ reachBytes) : xs.length ≤ 17592186044416 := by unfold reachBytes at h; omega
end Go.Proofs.YtkfmadeeobalaaaDoor
