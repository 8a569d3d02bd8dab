/-
  DERIVED. GIVEN WITH THE SEED: THE CARDS: each row of YtngogjookldidaaDoorRows.lean that lists a variable, with what it lists TIED to the program's text (the seventh form; the later family's looks); each row that meets fmt, with fmt's text TOLD by the authors' own Lean function (tested against real Go, not proved from fmt's source: count such statements apart). THE CARD IS WHAT COUNTS. Prove the row's statement (the work); the ties are given (YtngogjookldidaaDoorTie.lean); close each card by the builder's one call (the guide's Derived/Test/ToyasCard.lean, 'card_holds'). Laid BY PROGRAM, IN A SANDBOX (cutbox-door.mjs). By AI agents, Wed Nov 11 2026. No macro, syntax, notation, axiom, sorry.
-/
import Derived.Test.YtngogjookldidaaDoorRows
import GoSem.ClaimSeven
namespace Go.Proofs.YtngogjookldidaaDoor
namespace Rows

/-- THE TIED CARD OF 'canvasslaw8.CodeAgreementIsSymmetric'. -/
def codeAgreementIsSymmetricCard : Claim7 := { stood := { row := codeAgreementIsSymmetricRow, standIns := [], harness := (true, "d9d90075950c8f602d0d0f08707700e3bed0c369505ce3c574608d294009a486"), looks := false }, kinds := [], alts := [], laidByText := true, laidKinds := [.data, .data, .data, .data, .pinned], laidTests := true, laidLooks := .later }
def CodeAgreementIsSymmetricCardSaid : Prop := Claim7.holds Tryd.pinned (.plain (OpenSpec.ofChange codeAgreementIsSymmetricSpec)) codeAgreementIsSymmetricCard

/-- THE SECOND FORM's CARD OF 'canvasslaw8.CodeAgreementIsSymmetric'. -/
def codeAgreementIsSymmetricUptoCard : Claim7 := { stood := { row := codeAgreementIsSymmetricUptoRow, standIns := [], harness := (true, "d9d90075950c8f602d0d0f08707700e3bed0c369505ce3c574608d294009a486"), looks := false }, kinds := [], alts := [], laidByText := true, laidKinds := [.data, .data, .data, .data, .pinned], laidTests := true, laidLooks := .later }
def CodeAgreementIsSymmetricUptoCardSaid : Prop := Claim7.holds Tryd.pinned (.plain (OpenSpec.upto codeAgreementIsSymmetricSpec)) codeAgreementIsSymmetricUptoCard
end Rows
end Go.Proofs.YtngogjookldidaaDoor
