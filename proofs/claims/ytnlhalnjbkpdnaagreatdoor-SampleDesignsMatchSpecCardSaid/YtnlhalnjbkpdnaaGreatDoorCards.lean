/-
  DERIVED. GIVEN WITH THE SEED: THE CARDS: each row of YtnlhalnjbkpdnaaGreatDoorRows.lean that lists a variable, with what it lists TIED to the program's text (the seventh form; the later family's looks); each row that meets fmt, with fmt's text TOLD by the authors' own Lean function (tested against real Go, not proved from fmt's source: count such statements apart). THE CARD IS WHAT COUNTS. Prove the row's statement (the work); the ties are given (YtnlhalnjbkpdnaaGreatDoorTie.lean); close each card by the builder's one call (the guide's Derived/Test/ToyasCard.lean, 'card_holds'). Laid BY PROGRAM, IN A SANDBOX (cutbox-door.mjs). By AI agents, Wed Nov 11 2026. No macro, syntax, notation, axiom, sorry.
-/
import Derived.Test.YtnlhalnjbkpdnaaGreatDoorRows
import GoSem.ClaimSeven
namespace Go.Proofs.YtnlhalnjbkpdnaaGreatDoor
namespace Rows

/-- THE TIED CARD OF 'canvasslaw5.SampleDesignsMatchSpec'. -/
def sampleDesignsMatchSpecCard : Claim7 := { stood := { row := sampleDesignsMatchSpecRow, standIns := [], harness := (true, "f8404060365dbd797aa1d8adb457359ad707ae438e360f8770cdd446a828fdee"), looks := true }, kinds := [], alts := [], laidByText := true, laidKinds := [.data, .data, .data, .data, .listed, .data, .pinned], laidTests := true, laidLooks := .later }
def SampleDesignsMatchSpecCardSaid : Prop := Claim7.holds Tryz.pinned (.plain (OpenSpec.ofChange sampleDesignsMatchSpecSpec)) sampleDesignsMatchSpecCard

/-- THE TIED CARD OF 'canvasslaw5.SampleDrawsMatchSpec'. -/
def sampleDrawsMatchSpecCard : Claim7 := { stood := { row := sampleDrawsMatchSpecRow, standIns := [], harness := (true, "f8404060365dbd797aa1d8adb457359ad707ae438e360f8770cdd446a828fdee"), looks := true }, kinds := [], alts := [], laidByText := true, laidKinds := [.data, .data, .data, .data, .listed, .data, .pinned], laidTests := true, laidLooks := .later }
def SampleDrawsMatchSpecCardSaid : Prop := Claim7.holds Tryz.pinned (.plain (OpenSpec.ofChange sampleDrawsMatchSpecSpec)) sampleDrawsMatchSpecCard

/-- THE TIED CARD OF 'canvasslaw5.SampleListsMatchSpec'. -/
def sampleListsMatchSpecCard : Claim7 := { stood := { row := sampleListsMatchSpecRow, standIns := [], harness := (true, "f8404060365dbd797aa1d8adb457359ad707ae438e360f8770cdd446a828fdee"), looks := true }, kinds := [], alts := [], laidByText := true, laidKinds := [.data, .data, .data, .data, .listed, .data, .pinned], laidTests := true, laidLooks := .later }
def SampleListsMatchSpecCardSaid : Prop := Claim7.holds Tryz.pinned (.plain (OpenSpec.ofChange sampleListsMatchSpecSpec)) sampleListsMatchSpecCard

/-- THE TIED CARD OF 'canvasslaw5.SampleChancesAreCounted'. -/
def sampleChancesAreCountedCard : Claim7 := { stood := { row := sampleChancesAreCountedRow, standIns := [], harness := (true, "f8404060365dbd797aa1d8adb457359ad707ae438e360f8770cdd446a828fdee"), looks := true }, kinds := [], alts := [], laidByText := true, laidKinds := [.data, .data, .data, .data, .sentinel, .sentinel, .pinned], laidTests := true, laidLooks := .later }
def SampleChancesAreCountedCardSaid : Prop := Claim7.holds Tryz.pinned (.plain (OpenSpec.ofChange sampleChancesAreCountedSpec)) sampleChancesAreCountedCard

/-- THE SECOND FORM's CARD OF 'canvasslaw5.SampleDesignsMatchSpec'. -/
def sampleDesignsMatchSpecUptoCard : Claim7 := { stood := { row := sampleDesignsMatchSpecUptoRow, standIns := [], harness := (true, "f8404060365dbd797aa1d8adb457359ad707ae438e360f8770cdd446a828fdee"), looks := true }, kinds := [], alts := [], laidByText := true, laidKinds := [.data, .data, .data, .data, .listed, .data, .pinned], laidTests := true, laidLooks := .later }
def SampleDesignsMatchSpecUptoCardSaid : Prop := Claim7.holds Tryz.pinned (.plain (OpenSpec.upto sampleDesignsMatchSpecSpec)) sampleDesignsMatchSpecUptoCard

/-- THE SECOND FORM's CARD OF 'canvasslaw5.SampleDrawsMatchSpec'. -/
def sampleDrawsMatchSpecUptoCard : Claim7 := { stood := { row := sampleDrawsMatchSpecUptoRow, standIns := [], harness := (true, "f8404060365dbd797aa1d8adb457359ad707ae438e360f8770cdd446a828fdee"), looks := true }, kinds := [], alts := [], laidByText := true, laidKinds := [.data, .data, .data, .data, .listed, .data, .pinned], laidTests := true, laidLooks := .later }
def SampleDrawsMatchSpecUptoCardSaid : Prop := Claim7.holds Tryz.pinned (.plain (OpenSpec.upto sampleDrawsMatchSpecSpec)) sampleDrawsMatchSpecUptoCard

/-- THE SECOND FORM's CARD OF 'canvasslaw5.SampleListsMatchSpec'. -/
def sampleListsMatchSpecUptoCard : Claim7 := { stood := { row := sampleListsMatchSpecUptoRow, standIns := [], harness := (true, "f8404060365dbd797aa1d8adb457359ad707ae438e360f8770cdd446a828fdee"), looks := true }, kinds := [], alts := [], laidByText := true, laidKinds := [.data, .data, .data, .data, .listed, .data, .pinned], laidTests := true, laidLooks := .later }
def SampleListsMatchSpecUptoCardSaid : Prop := Claim7.holds Tryz.pinned (.plain (OpenSpec.upto sampleListsMatchSpecSpec)) sampleListsMatchSpecUptoCard

/-- THE SECOND FORM's CARD OF 'canvasslaw5.SampleChancesAreCounted'. -/
def sampleChancesAreCountedUptoCard : Claim7 := { stood := { row := sampleChancesAreCountedUptoRow, standIns := [], harness := (true, "f8404060365dbd797aa1d8adb457359ad707ae438e360f8770cdd446a828fdee"), looks := true }, kinds := [], alts := [], laidByText := true, laidKinds := [.data, .data, .data, .data, .sentinel, .sentinel, .pinned], laidTests := true, laidLooks := .later }
def SampleChancesAreCountedUptoCardSaid : Prop := Claim7.holds Tryz.pinned (.plain (OpenSpec.upto sampleChancesAreCountedSpec)) sampleChancesAreCountedUptoCard
end Rows
end Go.Proofs.YtnlhalnjbkpdnaaGreatDoor
