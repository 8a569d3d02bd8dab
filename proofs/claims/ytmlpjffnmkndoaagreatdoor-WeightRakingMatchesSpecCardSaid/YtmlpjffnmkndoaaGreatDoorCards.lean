/-
  DERIVED. GIVEN WITH THE SEED: THE CARDS: each row of YtmlpjffnmkndoaaGreatDoorRows.lean that lists a variable, with what it lists TIED to the program's text (the seventh form; the later family's looks); each row that meets fmt, with fmt's text TOLD by the authors' own Lean function (tested against real Go, not proved from fmt's source: count such statements apart). THE CARD IS WHAT COUNTS. Prove the row's statement (the work); the ties are given (YtmlpjffnmkndoaaGreatDoorTie.lean); close each card by the builder's one call (the guide's Derived/Test/ToyasCard.lean, 'card_holds'). Laid BY PROGRAM, IN A SANDBOX (cutbox-door.mjs). By AI agents, Wed Nov 11 2026. No macro, syntax, notation, axiom, sorry.
-/
import Derived.Test.YtmlpjffnmkndoaaGreatDoorRows
import GoSem.ClaimSeven
namespace Go.Proofs.YtmlpjffnmkndoaaGreatDoor
namespace Rows

/-- THE TIED CARD OF 'canvasslaw9.WeightPostMeetsTotals'. -/
def weightPostMeetsTotalsCard : Claim7 := { stood := { row := weightPostMeetsTotalsRow, standIns := [], harness := (true, "d1eac1021dd9d73c573404824b7a9ff269e0e59d5fe7685d7411960c626fab04"), looks := true }, kinds := [], alts := [], laidByText := true, laidKinds := [.data, .data, .data, .data, .sentinel, .sentinel, .pinned], laidTests := true, laidLooks := .later }
def WeightPostMeetsTotalsCardSaid : Prop := Claim7.holds Tryz.pinned (.plain (OpenSpec.ofChange weightPostMeetsTotalsSpec)) weightPostMeetsTotalsCard

/-- THE TIED CARD OF 'canvasslaw9.WeightRakingTellsItsDistance'. -/
def weightRakingTellsItsDistanceCard : Claim7 := { stood := { row := weightRakingTellsItsDistanceRow, standIns := [], harness := (true, "d1eac1021dd9d73c573404824b7a9ff269e0e59d5fe7685d7411960c626fab04"), looks := true }, kinds := [], alts := [], laidByText := true, laidKinds := [.data, .data, .data, .data, .sentinel, .sentinel, .pinned], laidTests := true, laidLooks := .later }
def WeightRakingTellsItsDistanceCardSaid : Prop := Claim7.holds Tryz.pinned (.plain (OpenSpec.ofChange weightRakingTellsItsDistanceSpec)) weightRakingTellsItsDistanceCard

/-- THE TIED CARD OF 'canvasslaw9.WeightPeopleMatchSpec'. -/
def weightPeopleMatchSpecCard : Claim7 := { stood := { row := weightPeopleMatchSpecRow, standIns := [], harness := (true, "d1eac1021dd9d73c573404824b7a9ff269e0e59d5fe7685d7411960c626fab04"), looks := true }, kinds := [], alts := [], laidByText := true, laidKinds := [.data, .data, .data, .data, .sentinel, .sentinel, .listed, .data, .pinned], laidTests := true, laidLooks := .later }
def WeightPeopleMatchSpecCardSaid : Prop := Claim7.holds Tryz.pinned (.plain (OpenSpec.ofChange weightPeopleMatchSpecSpec)) weightPeopleMatchSpecCard

/-- THE TIED CARD OF 'canvasslaw9.WeightPostMatchesSpec'. -/
def weightPostMatchesSpecCard : Claim7 := { stood := { row := weightPostMatchesSpecRow, standIns := [], harness := (true, "d1eac1021dd9d73c573404824b7a9ff269e0e59d5fe7685d7411960c626fab04"), looks := true }, kinds := [], alts := [], laidByText := true, laidKinds := [.data, .data, .data, .data, .sentinel, .sentinel, .listed, .data, .pinned], laidTests := true, laidLooks := .later }
def WeightPostMatchesSpecCardSaid : Prop := Claim7.holds Tryz.pinned (.plain (OpenSpec.ofChange weightPostMatchesSpecSpec)) weightPostMatchesSpecCard

/-- THE TIED CARD OF 'canvasslaw9.WeightRakingMatchesSpec'. -/
def weightRakingMatchesSpecCard : Claim7 := { stood := { row := weightRakingMatchesSpecRow, standIns := [], harness := (true, "d1eac1021dd9d73c573404824b7a9ff269e0e59d5fe7685d7411960c626fab04"), looks := true }, kinds := [], alts := [], laidByText := true, laidKinds := [.data, .data, .data, .data, .sentinel, .sentinel, .listed, .data, .pinned], laidTests := true, laidLooks := .later }
def WeightRakingMatchesSpecCardSaid : Prop := Claim7.holds Tryz.pinned (.plain (OpenSpec.ofChange weightRakingMatchesSpecSpec)) weightRakingMatchesSpecCard

/-- THE SECOND FORM's CARD OF 'canvasslaw9.WeightPostMeetsTotals'. -/
def weightPostMeetsTotalsUptoCard : Claim7 := { stood := { row := weightPostMeetsTotalsUptoRow, standIns := [], harness := (true, "d1eac1021dd9d73c573404824b7a9ff269e0e59d5fe7685d7411960c626fab04"), looks := true }, kinds := [], alts := [], laidByText := true, laidKinds := [.data, .data, .data, .data, .sentinel, .sentinel, .pinned], laidTests := true, laidLooks := .later }
def WeightPostMeetsTotalsUptoCardSaid : Prop := Claim7.holds Tryz.pinned (.plain (OpenSpec.upto weightPostMeetsTotalsSpec)) weightPostMeetsTotalsUptoCard

/-- THE SECOND FORM's CARD OF 'canvasslaw9.WeightRakingTellsItsDistance'. -/
def weightRakingTellsItsDistanceUptoCard : Claim7 := { stood := { row := weightRakingTellsItsDistanceUptoRow, standIns := [], harness := (true, "d1eac1021dd9d73c573404824b7a9ff269e0e59d5fe7685d7411960c626fab04"), looks := true }, kinds := [], alts := [], laidByText := true, laidKinds := [.data, .data, .data, .data, .sentinel, .sentinel, .pinned], laidTests := true, laidLooks := .later }
def WeightRakingTellsItsDistanceUptoCardSaid : Prop := Claim7.holds Tryz.pinned (.plain (OpenSpec.upto weightRakingTellsItsDistanceSpec)) weightRakingTellsItsDistanceUptoCard

/-- THE SECOND FORM's CARD OF 'canvasslaw9.WeightPeopleMatchSpec'. -/
def weightPeopleMatchSpecUptoCard : Claim7 := { stood := { row := weightPeopleMatchSpecUptoRow, standIns := [], harness := (true, "d1eac1021dd9d73c573404824b7a9ff269e0e59d5fe7685d7411960c626fab04"), looks := true }, kinds := [], alts := [], laidByText := true, laidKinds := [.data, .data, .data, .data, .sentinel, .sentinel, .listed, .data, .pinned], laidTests := true, laidLooks := .later }
def WeightPeopleMatchSpecUptoCardSaid : Prop := Claim7.holds Tryz.pinned (.plain (OpenSpec.upto weightPeopleMatchSpecSpec)) weightPeopleMatchSpecUptoCard

/-- THE SECOND FORM's CARD OF 'canvasslaw9.WeightPostMatchesSpec'. -/
def weightPostMatchesSpecUptoCard : Claim7 := { stood := { row := weightPostMatchesSpecUptoRow, standIns := [], harness := (true, "d1eac1021dd9d73c573404824b7a9ff269e0e59d5fe7685d7411960c626fab04"), looks := true }, kinds := [], alts := [], laidByText := true, laidKinds := [.data, .data, .data, .data, .sentinel, .sentinel, .listed, .data, .pinned], laidTests := true, laidLooks := .later }
def WeightPostMatchesSpecUptoCardSaid : Prop := Claim7.holds Tryz.pinned (.plain (OpenSpec.upto weightPostMatchesSpecSpec)) weightPostMatchesSpecUptoCard

/-- THE SECOND FORM's CARD OF 'canvasslaw9.WeightRakingMatchesSpec'. -/
def weightRakingMatchesSpecUptoCard : Claim7 := { stood := { row := weightRakingMatchesSpecUptoRow, standIns := [], harness := (true, "d1eac1021dd9d73c573404824b7a9ff269e0e59d5fe7685d7411960c626fab04"), looks := true }, kinds := [], alts := [], laidByText := true, laidKinds := [.data, .data, .data, .data, .sentinel, .sentinel, .listed, .data, .pinned], laidTests := true, laidLooks := .later }
def WeightRakingMatchesSpecUptoCardSaid : Prop := Claim7.holds Tryz.pinned (.plain (OpenSpec.upto weightRakingMatchesSpecSpec)) weightRakingMatchesSpecUptoCard
end Rows
end Go.Proofs.YtmlpjffnmkndoaaGreatDoor
