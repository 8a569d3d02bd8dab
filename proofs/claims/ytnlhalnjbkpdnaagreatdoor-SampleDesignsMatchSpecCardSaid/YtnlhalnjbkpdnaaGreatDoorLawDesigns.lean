/- The law SampleDesignsMatchSpec returns true for every input and leaves its arguments as they were: the form's frame round the walk of ZD29. Conditions: none. -/
import Derived.Test.YtnlhalnjbkpdnaaGreatDoorLawDesignsB
import Derived.Test.YtnlhalnjbkpdnaaGreatDoorRows
import Derived.Test.YtnlhalnjbkpdnaaGreatDoorCards
import Derived.Test.YtnlhalnjbkpdnaaGreatDoorTie
import Derived.SevenTiedAt
import Derived.LaidMore
import Derived.MakeChecks
import Derived.Deep.DeepLaidRun
import Derived.Stop.LaidErr
import Derived.Lib.LaidTab
import Derived.ProofKit
import Derived.OpenShut
import Derived.Stop.Joined
import Derived.Lay
namespace Go.Proofs.YtnlhalnjbkpdnaaGreatDoor.sampleDesignsMatchSpec
open Go.ChangeShapes Go.WideShapes Go.ChangeAt Go.RowKit
set_option linter.unusedVariables false
theorem proved : Rows.SampleDesignsMatchSpecCardSaid :=
  Claim7.holds_tied_plain_at .later [] [.data, .data, .data, .data, .listed, .data, .pinned] true (true, "f8404060365dbd797aa1d8adb457359ad707ae438e360f8770cdd446a828fdee") true
    over (fun _ h => by cases h) (by as_aux_lemma => kernel_rfl) (fun _ h => by cases h) sampleDesignsMatchSpec_row_tie rfl ⟨rfl, rfl⟩ (by as_aux_lemma => kernel_rfl) rfl
    (fun f fn hf hfn => by
      obtain rfl : f = 3 := Option.some.inj ((show Tryz.prog.funcNamed "canvass/canvasslaw5.SampleDesignsMatchSpec" = some 3 by as_aux_lemma => kernel_rfl).symm.trans hf) |>.symm
      obtain rfl : fn = Tryz.f3 := (Option.some.inj (Tryz.func3.symm.trans hfn)).symm
      exact ⟨by as_aux_lemma => kernel_rfl, fun j t ht => by
        rw [Tryz.params3] at ht
        have hm : t ∈ [24, 25, 3, 3] := by simpa using Array.mem_of_getElem? ht
        have hall : ([24, 25, 3, 3].all fun u => !Tryz.prog.wantsStandIn u) = true := by as_aux_lemma => kernel_rfl
        exact (show Tryz.prog.wantsStandIn t = false by simpa using List.all_eq_true.1 hall t hm)⟩)
    (by as_aux_lemma => kernel_rfl)
end Go.Proofs.YtnlhalnjbkpdnaaGreatDoor.sampleDesignsMatchSpec
