/- The law SampleDesignsMatchSpec returns true for every input and leaves its arguments as they were: the form's frame round the walk of ZD29. Conditions: none. The row holds. -/
import Derived.Test.YtnlhalnjbkpdnaaGreatDoorLawDesignsA
import Derived.Test.YtnlhalnjbkpdnaaGreatDoorLawDesignsJ
import Derived.Test.YtnlhalnjbkpdnaaGreatDoorRows
import Derived.Test.YtnlhalnjbkpdnaaGreatDoorCards
import Derived.Test.YtnlhalnjbkpdnaaGreatDoorTie
import Derived.SevenTiedAt
import Derived.LaidMore
import Derived.MakeChecks
import Derived.Deep.DeepLaidRun
import Derived.Stop.LaidErr
import Derived.Lib.LaidTab
import Derived.ProofKit
import Derived.OpenShut
import Derived.Stop.Joined
import Derived.Lay
namespace Go.Proofs.YtnlhalnjbkpdnaaGreatDoor.sampleDesignsMatchSpec
open Go.ChangeShapes Go.WideShapes Go.ChangeAt Go.RowKit
set_option linter.unusedVariables false
theorem closed : joinedFacts Tryz.prog 3 Tryz.f3 Rows.sampleDesignsMatchSpecSpec Rows.sampleDesignsMatchSpecRow = true := by
  unfold joinedFacts
  exact (and_t (and_t (and_t (and_t (and_t (and_t (and_t (and_t (and_t (and_t (and_t (and_t (and_t (and_t (and_t (and_t (and_t (and_t (and_t (and_t (and_t (and_t (and_t (and_t (and_t (and_t (and_t (and_t (and_t (and_t (and_t limb0 limb1) limb2) limb3) limb4) limb5) limb6) limb7) limb8) limb9) limb10) limb11) limb12) limb13) limb14) limb15) limb16) limb17) limb18) limb19) limb20) limb21) limb22) limb23) limb24) limb25) limb26) limb27) (by kernel_rfl)) limb29) limb30) limb31)
theorem over : Rows.sampleDesignsMatchSpecRow.holds Tryz.pinned (OpenSpec.ofChange Rows.sampleDesignsMatchSpecSpec) :=
  OpenClaim.holds_of_wide 3 Tryz.f3 rfl rfl rfl rfl rfl rfl rfl ⟨rfl, rfl, rfl, rfl, rfl⟩ rfl rfl rfl rfl rfl (by kernel_rfl) Tryz.func3 closed
    (of_decide_eq_true (by kernel_rfl)) (by unfold Func.isWrapper; first | (rw [if_pos (by decide +kernel)]; kernel_rfl) | (rw [if_neg (by decide +kernel)]; exact ⟨rfl, rfl⟩))
    (fun os started H enc _ => lifted os started H enc)
end Go.Proofs.YtnlhalnjbkpdnaaGreatDoor.sampleDesignsMatchSpec
