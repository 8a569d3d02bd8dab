/- The law EditRulesMatchSpec's walk. Conditions: the library's table of blanks reads as it was laid. -/
import Derived.Test.YtambgcijceecpaaDoorE29
namespace Go.Proofs.YtambgcijceecpaaDoor
open Go.RowKit
set_option linter.unusedVariables false
theorem editRulesMatchSpec_walk (w : World) (φ : Phi) (hφ : Fz φ w) (ht : TabP φ) (cs : Array Value) (x : Plan) (hx : Rep.rep φ x cs.toList) (g : PlanG x) :
    Calls Tryd.prog 4 #[.agg cs] w fun e w' => e = .returned (.bool true) ∧ Below w.heap.size w w' := by
  obtain ⟨a, cap, ae, ce, A⟩ := plan_open hx g
  rw [A.e]
  exact rules_core needed_any _ a cap x.1 _ ae ce x.2 w φ hφ ht A.s (Lib.hid rfl) A.hm (Lib.hid A.hg) A.se (Lib.hid rfl) A.hme (Lib.hid A.hge)
end Go.Proofs.YtambgcijceecpaaDoor
