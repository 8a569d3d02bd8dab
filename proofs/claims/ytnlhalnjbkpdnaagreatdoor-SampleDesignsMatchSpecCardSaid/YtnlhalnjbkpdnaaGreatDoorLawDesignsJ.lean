/- What the row of the law says of the program, limb by limb. Conditions: none. -/
import Derived.Test.YtnlhalnjbkpdnaaGreatDoorRows
import Derived.Test.YtnlhalnjbkpdnaaGreatDoorCards
import Derived.Test.YtnlhalnjbkpdnaaGreatDoorTie
import Derived.SevenTiedAt
import Derived.LaidMore
import Derived.MakeChecks
import Derived.Deep.DeepLaidRun
import Derived.Stop.LaidErr
import Derived.Lib.LaidTab
import Derived.ProofKit
import Derived.OpenShut
import Derived.Stop.Joined
import Derived.Lay
namespace Go.Proofs.YtnlhalnjbkpdnaaGreatDoor.sampleDesignsMatchSpec
open Go.ChangeShapes Go.WideShapes Go.ChangeAt Go.RowKit
set_option linter.unusedVariables false
theorem and_t {a b : Bool} (h : a = true) (k : b = true) : (a && b) = true := by rw [h, k]; rfl
theorem limb0 : Rows.sampleDesignsMatchSpecRow.wf (OpenSpec.ofChange Rows.sampleDesignsMatchSpecSpec) = true := by kernel_rfl
theorem limb1 : laidOutB Tryz.prog = true := by kernel_rfl
theorem limb2 : mapsRowed Tryz.prog = true := by kernel_rfl
theorem limb3 : Tryz.f3.params.all (Tryz.prog.readableRec ·) = true := by kernel_rfl
theorem limb4 : namedTie Tryz.prog Rows.sampleDesignsMatchSpecRow.named Rows.sampleDesignsMatchSpecSpec.vars = true := by kernel_rfl
theorem limb5 : (Rows.sampleDesignsMatchSpecRow.stops == []) = true := by kernel_rfl
theorem limb6 : (Tryz.prog.stops == []) = true := by kernel_rfl
theorem limb7 : (Rows.sampleDesignsMatchSpecRow.knobs == []) = true := by kernel_rfl
theorem limb8 : (Tryz.prog.stopKnobs == []) = true := by kernel_rfl
theorem limb9 : (Rows.sampleDesignsMatchSpecRow.inPlace == Tryz.prog.inPlace 3) = true := by kernel_rfl
theorem limb10 : (Rows.sampleDesignsMatchSpecRow.unfollowed == Tryz.prog.unfollowed 3) = true := by kernel_rfl
theorem limb11 : (Rows.sampleDesignsMatchSpecRow.recurses == Tryz.prog.recurses 3) = true := by kernel_rfl
theorem limb12 : (Rows.sampleDesignsMatchSpecRow.named == Tryz.prog.varsNamed 3) = true := by kernel_rfl
theorem limb13 : (Rows.sampleDesignsMatchSpecRow.maps == (Tryz.f3.params.toList ++ Rows.sampleDesignsMatchSpecSpec.plain.varTypes Tryz.prog).any (Tryz.prog.mapsRec ·)) = true := by kernel_rfl
theorem limb14 : (Rows.sampleDesignsMatchSpecRow.ifaces == (Tryz.f3.params.toList ++ Rows.sampleDesignsMatchSpecSpec.plain.varTypes Tryz.prog).any (Tryz.prog.ifacesRec ·)) = true := by kernel_rfl
theorem limb15 : (Rows.sampleDesignsMatchSpecRow.mapsOut == Tryz.prog.mapsAmong Tryz.f3.resultTypes.toList) = true := by kernel_rfl
theorem limb16 : (Rows.sampleDesignsMatchSpecRow.loops == (Tryz.f3.params.toList ++ Rows.sampleDesignsMatchSpecSpec.plain.varTypes Tryz.prog).any (Tryz.prog.loopsFrom ·)) = true := by kernel_rfl
theorem limb17 : (Rows.sampleDesignsMatchSpecRow.wideKeys == (Tryz.f3.params.toList ++ Rows.sampleDesignsMatchSpecSpec.plain.varTypes Tryz.prog ++ Tryz.f3.resultTypes.toList).any (Tryz.prog.wideKeysFrom ·)) = true := by kernel_rfl
theorem limb18 : Rows.sampleDesignsMatchSpecSpec.vars.all (Tryz.prog.varReadable ·) = true := by kernel_rfl
theorem limb19 : Tryz.f3.resultTypes.all (fun t => Tryz.prog.readableRec t && decide (t < Tryz.prog.types.size)) = true := by kernel_rfl
theorem limb20 : (Rows.sampleDesignsMatchSpecRow.ifacesOut == Tryz.f3.resultTypes.toList.any (Tryz.prog.ifacesRec ·)) = true := by kernel_rfl
theorem limb21 : (Rows.sampleDesignsMatchSpecRow.loopsOut == Tryz.f3.resultTypes.toList.any (Tryz.prog.loopsFrom ·)) = true := by kernel_rfl
theorem limb22 : (Rows.sampleDesignsMatchSpecRow.plainKeys == Tryz.prog.plainKeys) = true := by kernel_rfl
theorem limb23 : Rows.sampleDesignsMatchSpecRow.shortTexts.isNone = true := by kernel_rfl
theorem limb24 : Tryz.prog.stopsHeard = true := by kernel_rfl
theorem limb25 : Tryz.prog.mayEnter = true := by kernel_rfl
theorem limb26 : (Rows.sampleDesignsMatchSpecRow.lifted == Tryz.prog.liftsFinal) = true := by kernel_rfl
theorem limb27 : (Tryz.prog.make == some Rows.sampleDesignsMatchSpecRow.make) = true := by kernel_rfl
theorem limb29 : (Rows.sampleDesignsMatchSpecRow.pinned == Rows.sampleDesignsMatchSpecRow.pinnedBy) = true := by kernel_rfl
theorem limb30 : (Rows.sampleDesignsMatchSpecRow.veiled == (Tryz.f3.params.toList ++ Rows.sampleDesignsMatchSpecSpec.plain.varTypes Tryz.prog ++ Tryz.f3.resultTypes.toList).any (Tryz.prog.veiledRec ·)) = true := by kernel_rfl
theorem limb31 : Rows.sampleDesignsMatchSpecRow.veiledFits Tryz.prog Tryz.f3.params.toList (Tryz.f3.params.toList ++ Rows.sampleDesignsMatchSpecSpec.plain.varTypes Tryz.prog ++ Tryz.f3.resultTypes.toList) = true := by kernel_rfl
end Go.Proofs.YtnlhalnjbkpdnaaGreatDoor.sampleDesignsMatchSpec
