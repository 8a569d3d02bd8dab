/-
  DERIVED. GIVEN WITH THE SEED: THE CARDS: each row of YtambgcijceecpaaDoorRows.lean that lists a variable, with what it lists TIED to the program's text (the seventh form; the later family's looks); each row that meets fmt, with fmt's text TOLD by the authors' own Lean function (tested against real Go, not proved from fmt's source: count such statements apart). THE CARD IS WHAT COUNTS. Prove the row's statement (the work); the ties are given (YtambgcijceecpaaDoorTie.lean); close each card by the builder's one call (the guide's Derived/Test/ToyasCard.lean, 'card_holds'). Laid BY PROGRAM, IN A SANDBOX (cutbox-door.mjs). By AI agents, Wed Nov 11 2026. No macro, syntax, notation, axiom, sorry.
-/
import Derived.Test.YtambgcijceecpaaDoorRows
import GoSem.ClaimSeven
namespace Go.Proofs.YtambgcijceecpaaDoor
namespace Rows

/-- THE TIED CARD OF 'canvasslaw7.EditRecordsMatchSpec'. -/
def editRecordsMatchSpecCard : Claim7 := { stood := { row := editRecordsMatchSpecRow, standIns := [], harness := (true, "72c2eb5fd88d877272d602dd51597f517bc48b1119c8111f5cdb3b26abccb756"), looks := false }, kinds := [], alts := [], laidByText := true, laidKinds := [.listed, .data], laidTests := true, laidLooks := .later }
def EditRecordsMatchSpecCardSaid : Prop := Claim7.holds Tryd.pinned (.plain (OpenSpec.ofChange editRecordsMatchSpecSpec)) editRecordsMatchSpecCard

/-- THE TIED CARD OF 'canvasslaw7.EditRulesMatchSpec'. -/
def editRulesMatchSpecCard : Claim7 := { stood := { row := editRulesMatchSpecRow, standIns := [], harness := (true, "72c2eb5fd88d877272d602dd51597f517bc48b1119c8111f5cdb3b26abccb756"), looks := false }, kinds := [], alts := [], laidByText := true, laidKinds := [.listed, .data], laidTests := true, laidLooks := .later }
def EditRulesMatchSpecCardSaid : Prop := Claim7.holds Tryd.pinned (.plain (OpenSpec.ofChange editRulesMatchSpecSpec)) editRulesMatchSpecCard

/-- THE TIED CARD OF 'canvasslaw7.EditLeastMatchesSpec'. -/
def editLeastMatchesSpecCard : Claim7 := { stood := { row := editLeastMatchesSpecRow, standIns := [], harness := (true, "72c2eb5fd88d877272d602dd51597f517bc48b1119c8111f5cdb3b26abccb756"), looks := false }, kinds := [], alts := [], laidByText := true, laidKinds := [.listed, .data], laidTests := true, laidLooks := .later }
def EditLeastMatchesSpecCardSaid : Prop := Claim7.holds Tryd.pinned (.plain (OpenSpec.ofChange editLeastMatchesSpecSpec)) editLeastMatchesSpecCard

/-- THE TIED CARD OF 'canvasslaw7.EditImputesMatchSpec'. -/
def editImputesMatchSpecCard : Claim7 := { stood := { row := editImputesMatchSpecRow, standIns := [], harness := (true, "72c2eb5fd88d877272d602dd51597f517bc48b1119c8111f5cdb3b26abccb756"), looks := false }, kinds := [], alts := [], laidByText := true, laidKinds := [.listed, .data], laidTests := true, laidLooks := .later }
def EditImputesMatchSpecCardSaid : Prop := Claim7.holds Tryd.pinned (.plain (OpenSpec.ofChange editImputesMatchSpecSpec)) editImputesMatchSpecCard

/-- THE TIED CARD OF 'canvasslaw7.EditPlansMatchSpec'. -/
def editPlansMatchSpecCard : Claim7 := { stood := { row := editPlansMatchSpecRow, standIns := [], harness := (true, "72c2eb5fd88d877272d602dd51597f517bc48b1119c8111f5cdb3b26abccb756"), looks := false }, kinds := [], alts := [], laidByText := true, laidKinds := [.data, .data, .data, .listed, .data], laidTests := true, laidLooks := .later }
def EditPlansMatchSpecCardSaid : Prop := Claim7.holds Tryd.pinned (.plain (OpenSpec.ofChange editPlansMatchSpecSpec)) editPlansMatchSpecCard

/-- THE TIED CARD OF 'canvasslaw7.EditRepairedRecordsPass'. -/
def editRepairedRecordsPassCard : Claim7 := { stood := { row := editRepairedRecordsPassRow, standIns := [], harness := (true, "72c2eb5fd88d877272d602dd51597f517bc48b1119c8111f5cdb3b26abccb756"), looks := false }, kinds := [], alts := [], laidByText := true, laidKinds := [.data, .data, .data], laidTests := true, laidLooks := .later }
def EditRepairedRecordsPassCardSaid : Prop := Claim7.holds Tryd.pinned (.plain (OpenSpec.ofChange editRepairedRecordsPassSpec)) editRepairedRecordsPassCard

/-- THE SECOND FORM's CARD OF 'canvasslaw7.EditRecordsMatchSpec'. -/
def editRecordsMatchSpecUptoCard : Claim7 := { stood := { row := editRecordsMatchSpecUptoRow, standIns := [], harness := (true, "72c2eb5fd88d877272d602dd51597f517bc48b1119c8111f5cdb3b26abccb756"), looks := false }, kinds := [], alts := [], laidByText := true, laidKinds := [.listed, .data], laidTests := true, laidLooks := .later }
def EditRecordsMatchSpecUptoCardSaid : Prop := Claim7.holds Tryd.pinned (.plain (OpenSpec.upto editRecordsMatchSpecSpec)) editRecordsMatchSpecUptoCard

/-- THE SECOND FORM's CARD OF 'canvasslaw7.EditRulesMatchSpec'. -/
def editRulesMatchSpecUptoCard : Claim7 := { stood := { row := editRulesMatchSpecUptoRow, standIns := [], harness := (true, "72c2eb5fd88d877272d602dd51597f517bc48b1119c8111f5cdb3b26abccb756"), looks := false }, kinds := [], alts := [], laidByText := true, laidKinds := [.listed, .data], laidTests := true, laidLooks := .later }
def EditRulesMatchSpecUptoCardSaid : Prop := Claim7.holds Tryd.pinned (.plain (OpenSpec.upto editRulesMatchSpecSpec)) editRulesMatchSpecUptoCard

/-- THE SECOND FORM's CARD OF 'canvasslaw7.EditLeastMatchesSpec'. -/
def editLeastMatchesSpecUptoCard : Claim7 := { stood := { row := editLeastMatchesSpecUptoRow, standIns := [], harness := (true, "72c2eb5fd88d877272d602dd51597f517bc48b1119c8111f5cdb3b26abccb756"), looks := false }, kinds := [], alts := [], laidByText := true, laidKinds := [.listed, .data], laidTests := true, laidLooks := .later }
def EditLeastMatchesSpecUptoCardSaid : Prop := Claim7.holds Tryd.pinned (.plain (OpenSpec.upto editLeastMatchesSpecSpec)) editLeastMatchesSpecUptoCard

/-- THE SECOND FORM's CARD OF 'canvasslaw7.EditImputesMatchSpec'. -/
def editImputesMatchSpecUptoCard : Claim7 := { stood := { row := editImputesMatchSpecUptoRow, standIns := [], harness := (true, "72c2eb5fd88d877272d602dd51597f517bc48b1119c8111f5cdb3b26abccb756"), looks := false }, kinds := [], alts := [], laidByText := true, laidKinds := [.listed, .data], laidTests := true, laidLooks := .later }
def EditImputesMatchSpecUptoCardSaid : Prop := Claim7.holds Tryd.pinned (.plain (OpenSpec.upto editImputesMatchSpecSpec)) editImputesMatchSpecUptoCard

/-- THE SECOND FORM's CARD OF 'canvasslaw7.EditPlansMatchSpec'. -/
def editPlansMatchSpecUptoCard : Claim7 := { stood := { row := editPlansMatchSpecUptoRow, standIns := [], harness := (true, "72c2eb5fd88d877272d602dd51597f517bc48b1119c8111f5cdb3b26abccb756"), looks := false }, kinds := [], alts := [], laidByText := true, laidKinds := [.data, .data, .data, .listed, .data], laidTests := true, laidLooks := .later }
def EditPlansMatchSpecUptoCardSaid : Prop := Claim7.holds Tryd.pinned (.plain (OpenSpec.upto editPlansMatchSpecSpec)) editPlansMatchSpecUptoCard

/-- THE SECOND FORM's CARD OF 'canvasslaw7.EditRepairedRecordsPass'. -/
def editRepairedRecordsPassUptoCard : Claim7 := { stood := { row := editRepairedRecordsPassUptoRow, standIns := [], harness := (true, "72c2eb5fd88d877272d602dd51597f517bc48b1119c8111f5cdb3b26abccb756"), looks := false }, kinds := [], alts := [], laidByText := true, laidKinds := [.data, .data, .data], laidTests := true, laidLooks := .later }
def EditRepairedRecordsPassUptoCardSaid : Prop := Claim7.holds Tryd.pinned (.plain (OpenSpec.upto editRepairedRecordsPassSpec)) editRepairedRecordsPassUptoCard
end Rows
end Go.Proofs.YtambgcijceecpaaDoor
