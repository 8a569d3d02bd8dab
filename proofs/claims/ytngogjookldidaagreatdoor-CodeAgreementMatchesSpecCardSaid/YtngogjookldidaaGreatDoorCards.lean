/-
  DERIVED. GIVEN WITH THE SEED: THE CARDS: each row of YtngogjookldidaaGreatDoorRows.lean that lists a variable, with what it lists TIED to the program's text (the seventh form; the later family's looks); each row that meets fmt, with fmt's text TOLD by the authors' own Lean function (tested against real Go, not proved from fmt's source: count such statements apart). THE CARD IS WHAT COUNTS. Prove the row's statement (the work); the ties are given (YtngogjookldidaaGreatDoorTie.lean); close each card by the builder's one call (the guide's Derived/Test/ToyasCard.lean, 'card_holds'). Laid BY PROGRAM, IN A SANDBOX (cutbox-door.mjs). By AI agents, Wed Nov 11 2026. No macro, syntax, notation, axiom, sorry.
-/
import Derived.Test.YtngogjookldidaaGreatDoorRows
import GoSem.ClaimSeven
namespace Go.Proofs.YtngogjookldidaaGreatDoor
namespace Rows

/-- THE TIED CARD OF 'canvasslaw8.CodeAgreementMatchesSpec'. -/
def codeAgreementMatchesSpecCard : Claim7 := { stood := { row := codeAgreementMatchesSpecRow, standIns := [], harness := (true, "9faa30e250e1f764fc39717dbee0ea82c18fb91f13e3572d1f20930f994baaae"), looks := false }, kinds := [], alts := [], laidByText := true, laidKinds := [.data, .data, .data, .data, .pinned], laidTests := true, laidLooks := .later }
def CodeAgreementMatchesSpecCardSaid : Prop := Claim7.holds Tryz.pinned (.plain (OpenSpec.ofChange codeAgreementMatchesSpecSpec)) codeAgreementMatchesSpecCard

/-- THE SECOND FORM's CARD OF 'canvasslaw8.CodeAgreementMatchesSpec'. -/
def codeAgreementMatchesSpecUptoCard : Claim7 := { stood := { row := codeAgreementMatchesSpecUptoRow, standIns := [], harness := (true, "9faa30e250e1f764fc39717dbee0ea82c18fb91f13e3572d1f20930f994baaae"), looks := false }, kinds := [], alts := [], laidByText := true, laidKinds := [.data, .data, .data, .data, .pinned], laidTests := true, laidLooks := .later }
def CodeAgreementMatchesSpecUptoCardSaid : Prop := Claim7.holds Tryz.pinned (.plain (OpenSpec.upto codeAgreementMatchesSpecSpec)) codeAgreementMatchesSpecUptoCard
end Rows
end Go.Proofs.YtngogjookldidaaGreatDoor
