/- The law EditRepairsMatchSpec's walk, at the claim form's data. Conditions: the library's tables of blanks and of powers of ten read as they were laid. -/
import Derived.Test.YtkfmadeeobalaaaDoorY5
import Derived.Test.YtkfmadeeobalaaaDoorPl
namespace Go.Proofs.YtkfmadeeobalaaaDoor
open Go.RowKit
set_option linter.unusedVariables false
def LiG3 (xs : List (List Int)) : Prop := xs.length * Tryd.prog.bytesOf 32 ≤ reachBytes ∧ ∀ x ∈ xs, x.length * 8 ≤ reachBytes ∧ ∀ y ∈ x, IsI64 y
theorem rLists3 (H : Type) (enc : TypeId × Value → H) (W : World) : Reads enc Tryd.prog W 26 (List (List Int)) LiG3 := Reads.slice Tryd.underlying26 (by kernel_rfl) (by decide) (rInts H enc W)
def RpG (x : Rpr) : Prop := (x.1.length * 8 ≤ reachBytes ∧ ∀ z ∈ x.1, IsI64 z) ∧ (x.2.1.length * 8 ≤ reachBytes ∧ ∀ z ∈ x.2.1, IsI64 z) ∧ IsI64 x.2.2
def RpLG (xs : List Rpr) : Prop := xs.length * Tryd.prog.bytesOf 34 ≤ reachBytes ∧ ∀ x ∈ xs, RpG x
theorem rReps (H : Type) (enc : TypeId × Value → H) (W : World) : Reads enc Tryd.prog W 27 (List Rpr) RpLG :=
  Reads.slice Tryd.underlying27 (by kernel_rfl) (by decide) (Reads.struct3 (s1 := 1) (s2 := 1) (s3 := 1) Tryd.underlying34 (by kernel_rfl) (by kernel_rfl) (by kernel_rfl) (by kernel_rfl) (by kernel_rfl) (by kernel_rfl) (by kernel_rfl) (rInts H enc W) (rInts H enc W) (rInt H enc W))
theorem editRepairsMatchSpec_walk (w : World) (φ : Phi) (hφ : Fz φ w) (hp : PowP φ) (ht : TabP φ) (cs : Array Value) (x : Plan) (hx : Rep.rep φ x cs.toList) (g : PlanG x)
    (a3 : Option Addr) (c3 : Nat) (ds : List (List Int)) (sd : SlV φ a3 c3 ds) (gd : LiG3 ds) (seed : ByteArray) (hs : StrG seed) (a4 : Option Addr) (c4 : Nat) (d : List Rpr) (sr : SlV φ a4 c4 d) (gr : RpLG d) :
    Calls Tryd.prog 3 #[.agg cs, .slice a3 ds.length c3, .string seed, .slice a4 d.length c4] w fun e w' => e = .returned (.bool true) ∧ Below w.heap.size w w' := by
  obtain ⟨a, cap, ae, ce, A⟩ := plan_open hx g
  rw [A.e]
  exact repairs_core _ a cap x.1 _ ae ce x.2 w φ hφ ht hp A.s (Lib.hid rfl) A.hm (Lib.hid A.hg) A.se (Lib.hid rfl) A.hme (Lib.hid A.hge) _ a3 c3 ds sd (Lib.hid rfl) sd.len seed hs _ a4 c4 d sr (Lib.hid rfl) sr.len
end Go.Proofs.YtkfmadeeobalaaaDoor
