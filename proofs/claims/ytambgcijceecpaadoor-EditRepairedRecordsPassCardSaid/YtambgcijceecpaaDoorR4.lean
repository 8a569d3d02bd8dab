/- The law EditRepairedRecordsPass's walk, at the claim form's data. Conditions: the library's table of powers of ten reads as it was laid. -/
import Derived.Test.YtambgcijceecpaaDoorR3
namespace Go.Proofs.YtambgcijceecpaaDoor
open Go.RowKit
set_option linter.unusedVariables false
def LiG2 (xs : List (List Int)) : Prop := xs.length * Tryd.prog.bytesOf 26 ≤ reachBytes ∧ ∀ x ∈ xs, x.length * 8 ≤ reachBytes ∧ ∀ y ∈ x, IsI64 y
theorem rLists2 (H : Type) (enc : TypeId × Value → H) (W : World) : Reads enc Tryd.prog W 40 (List (List Int)) LiG2 := Reads.slice Tryd.underlying40 (by kernel_rfl) (by decide) (rInts H enc W)
theorem editRepairedRecordsPass_walk (w : World) (φ : Phi) (hφ : Fz φ w) (hp : PowP φ) (cs : Array Value) (x : Plan) (hx : Rep.rep φ x cs.toList) (g : PlanG x)
    (a3 : Option Addr) (c3 : Nat) (ds : List (List Int)) (sd : SlV φ a3 c3 ds) (gd : LiG2 ds) (seed : ByteArray) (hs : StrG seed) :
    Calls Tryd.prog 8 #[.agg cs, .slice a3 ds.length c3, .string seed] w fun e w' => e = .returned (.bool true) ∧ Below w.heap.size w w' := by
  obtain ⟨a, cap, ae, ce, A⟩ := plan_open hx g
  rw [A.e]
  exact repaired_core _ a cap x.1 _ ae ce x.2 w φ hφ hp A.s (Lib.hid rfl) A.hm (Lib.hid A.hg) A.se (Lib.hid rfl) A.hme (Lib.hid A.hge) _ a3 c3 ds sd (Lib.hid rfl) sd.len seed hs
end Go.Proofs.YtambgcijceecpaaDoor
