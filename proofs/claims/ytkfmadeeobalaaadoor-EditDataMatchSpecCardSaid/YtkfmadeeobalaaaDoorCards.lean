/-
  DERIVED. GIVEN WITH THE SEED: THE CARDS: each row of YtkfmadeeobalaaaDoorRows.lean that lists a variable, with what it lists TIED to the program's text (the seventh form; the later family's looks); each row that meets fmt, with fmt's text TOLD by the authors' own Lean function (tested against real Go, not proved from fmt's source: count such statements apart). THE CARD IS WHAT COUNTS. Prove the row's statement (the work); the ties are given (YtkfmadeeobalaaaDoorTie.lean); close each card by the builder's one call (the guide's Derived/Test/ToyasCard.lean, 'card_holds'). Laid BY PROGRAM, IN A SANDBOX (cutbox-door.mjs). By AI agents, Wed Nov 11 2026. No macro, syntax, notation, axiom, sorry.
-/
import Derived.Test.YtkfmadeeobalaaaDoorRows
import GoSem.ClaimSeven
namespace Go.Proofs.YtkfmadeeobalaaaDoor
namespace Rows

/-- THE TIED CARD OF 'canvasslaw7.EditRepairsMatchSpec'. -/
def editRepairsMatchSpecCard : Claim7 := { stood := { row := editRepairsMatchSpecRow, standIns := [], harness := (true, "60d74e4a8b08659b630ada4e61751b924103fc12b08458d36b9e3da4a9b65fd9"), looks := false }, kinds := [], alts := [], laidByText := true, laidKinds := [.data, .data, .data, .listed, .data], laidTests := true, laidLooks := .later }
def EditRepairsMatchSpecCardSaid : Prop := Claim7.holds Tryd.pinned (.plain (OpenSpec.ofChange editRepairsMatchSpecSpec)) editRepairsMatchSpecCard

/-- THE TIED CARD OF 'canvasslaw7.EditDataMatchSpec'. -/
def editDataMatchSpecCard : Claim7 := { stood := { row := editDataMatchSpecRow, standIns := [], harness := (true, "60d74e4a8b08659b630ada4e61751b924103fc12b08458d36b9e3da4a9b65fd9"), looks := false }, kinds := [], alts := [], laidByText := true, laidKinds := [.data, .data, .data, .listed, .data], laidTests := true, laidLooks := .later }
def EditDataMatchSpecCardSaid : Prop := Claim7.holds Tryd.pinned (.plain (OpenSpec.ofChange editDataMatchSpecSpec)) editDataMatchSpecCard

/-- THE TIED CARD OF 'canvasslaw7.EditTextsComeBack'. -/
def editTextsComeBackCard : Claim7 := { stood := { row := editTextsComeBackRow, standIns := [], harness := (true, "60d74e4a8b08659b630ada4e61751b924103fc12b08458d36b9e3da4a9b65fd9"), looks := false }, kinds := [], alts := [], laidByText := true, laidKinds := [.data, .data, .data, .data, .pinned], laidTests := true, laidLooks := .later }
def EditTextsComeBackCardSaid : Prop := Claim7.holds Tryd.pinned (.plain (OpenSpec.ofChange editTextsComeBackSpec)) editTextsComeBackCard

/-- THE SECOND FORM's CARD OF 'canvasslaw7.EditRepairsMatchSpec'. -/
def editRepairsMatchSpecUptoCard : Claim7 := { stood := { row := editRepairsMatchSpecUptoRow, standIns := [], harness := (true, "60d74e4a8b08659b630ada4e61751b924103fc12b08458d36b9e3da4a9b65fd9"), looks := false }, kinds := [], alts := [], laidByText := true, laidKinds := [.data, .data, .data, .listed, .data], laidTests := true, laidLooks := .later }
def EditRepairsMatchSpecUptoCardSaid : Prop := Claim7.holds Tryd.pinned (.plain (OpenSpec.upto editRepairsMatchSpecSpec)) editRepairsMatchSpecUptoCard

/-- THE SECOND FORM's CARD OF 'canvasslaw7.EditDataMatchSpec'. -/
def editDataMatchSpecUptoCard : Claim7 := { stood := { row := editDataMatchSpecUptoRow, standIns := [], harness := (true, "60d74e4a8b08659b630ada4e61751b924103fc12b08458d36b9e3da4a9b65fd9"), looks := false }, kinds := [], alts := [], laidByText := true, laidKinds := [.data, .data, .data, .listed, .data], laidTests := true, laidLooks := .later }
def EditDataMatchSpecUptoCardSaid : Prop := Claim7.holds Tryd.pinned (.plain (OpenSpec.upto editDataMatchSpecSpec)) editDataMatchSpecUptoCard

/-- THE SECOND FORM's CARD OF 'canvasslaw7.EditTextsComeBack'. -/
def editTextsComeBackUptoCard : Claim7 := { stood := { row := editTextsComeBackUptoRow, standIns := [], harness := (true, "60d74e4a8b08659b630ada4e61751b924103fc12b08458d36b9e3da4a9b65fd9"), looks := false }, kinds := [], alts := [], laidByText := true, laidKinds := [.data, .data, .data, .data, .pinned], laidTests := true, laidLooks := .later }
def EditTextsComeBackUptoCardSaid : Prop := Claim7.holds Tryd.pinned (.plain (OpenSpec.upto editTextsComeBackSpec)) editTextsComeBackUptoCard
end Rows
end Go.Proofs.YtkfmadeeobalaaaDoor
