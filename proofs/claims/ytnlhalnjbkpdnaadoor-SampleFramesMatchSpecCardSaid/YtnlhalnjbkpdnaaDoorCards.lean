/-
  DERIVED. GIVEN WITH THE SEED: THE CARDS: each row of YtnlhalnjbkpdnaaDoorRows.lean that lists a variable, with what it lists TIED to the program's text (the seventh form; the later family's looks); each row that meets fmt, with fmt's text TOLD by the authors' own Lean function (tested against real Go, not proved from fmt's source: count such statements apart). THE CARD IS WHAT COUNTS. Prove the row's statement (the work); the ties are given (YtnlhalnjbkpdnaaDoorTie.lean); close each card by the builder's one call (the guide's Derived/Test/ToyasCard.lean, 'card_holds'). Laid BY PROGRAM, IN A SANDBOX (cutbox-door.mjs). By AI agents, Wed Nov 11 2026. No macro, syntax, notation, axiom, sorry.
-/
import Derived.Test.YtnlhalnjbkpdnaaDoorRows
import GoSem.ClaimSeven
namespace Go.Proofs.YtnlhalnjbkpdnaaDoor
namespace Rows

/-- THE TIED CARD OF 'canvasslaw5.SampleFramesMatchSpec'. -/
def sampleFramesMatchSpecCard : Claim7 := { stood := { row := sampleFramesMatchSpecRow, standIns := [], harness := (true, "37ecf8255ea38f3805ad9c0492f6f3efbb1ab2626e1f7d94edbcc9188b17e60e"), looks := false }, kinds := [], alts := [], laidByText := true, laidKinds := [.listed, .data], laidTests := true, laidLooks := .later }
def SampleFramesMatchSpecCardSaid : Prop := Claim7.holds Tryd.pinned (.plain (OpenSpec.ofChange sampleFramesMatchSpecSpec)) sampleFramesMatchSpecCard

/-- THE SECOND FORM's CARD OF 'canvasslaw5.SampleFramesMatchSpec'. -/
def sampleFramesMatchSpecUptoCard : Claim7 := { stood := { row := sampleFramesMatchSpecUptoRow, standIns := [], harness := (true, "37ecf8255ea38f3805ad9c0492f6f3efbb1ab2626e1f7d94edbcc9188b17e60e"), looks := false }, kinds := [], alts := [], laidByText := true, laidKinds := [.listed, .data], laidTests := true, laidLooks := .later }
def SampleFramesMatchSpecUptoCardSaid : Prop := Claim7.holds Tryd.pinned (.plain (OpenSpec.upto sampleFramesMatchSpecSpec)) sampleFramesMatchSpecUptoCard
end Rows
end Go.Proofs.YtnlhalnjbkpdnaaDoor
