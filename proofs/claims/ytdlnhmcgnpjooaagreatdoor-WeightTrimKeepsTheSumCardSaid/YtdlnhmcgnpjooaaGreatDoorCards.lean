/-
  DERIVED. GIVEN WITH THE SEED: THE CARDS: each row of YtdlnhmcgnpjooaaGreatDoorRows.lean that lists a variable, with what it lists TIED to the program's text (the seventh form; the later family's looks); each row that meets fmt, with fmt's text TOLD by the authors' own Lean function (tested against real Go, not proved from fmt's source: count such statements apart). THE CARD IS WHAT COUNTS. Prove the row's statement (the work); the ties are given (YtdlnhmcgnpjooaaGreatDoorTie.lean); close each card by the builder's one call (the guide's Derived/Test/ToyasCard.lean, 'card_holds'). Laid BY PROGRAM, IN A SANDBOX (cutbox-door.mjs). By AI agents, Wed Nov 11 2026. No macro, syntax, notation, axiom, sorry.
-/
import Derived.Test.YtdlnhmcgnpjooaaGreatDoorRows
import GoSem.ClaimSeven
namespace Go.Proofs.YtdlnhmcgnpjooaaGreatDoor
namespace Rows

/-- THE TIED CARD OF 'canvasslaw9.WeightBasesMatchSpec'. -/
def weightBasesMatchSpecCard : Claim7 := { stood := { row := weightBasesMatchSpecRow, standIns := [], harness := (true, "38e3eb5c2346c1670fa038166e5a067dcbf0ce47808968d52ab238f670628f08"), looks := true }, kinds := [], alts := [], laidByText := true, laidKinds := [.data, .data, .data, .data, .sentinel, .sentinel, .pinned], laidTests := true, laidLooks := .later }
def WeightBasesMatchSpecCardSaid : Prop := Claim7.holds Tryz.pinned (.plain (OpenSpec.ofChange weightBasesMatchSpecSpec)) weightBasesMatchSpecCard

/-- THE TIED CARD OF 'canvasslaw9.WeightSpreadsMatchSpec'. -/
def weightSpreadsMatchSpecCard : Claim7 := { stood := { row := weightSpreadsMatchSpecRow, standIns := [], harness := (true, "38e3eb5c2346c1670fa038166e5a067dcbf0ce47808968d52ab238f670628f08"), looks := true }, kinds := [], alts := [], laidByText := true, laidKinds := [.data, .data, .data, .data, .sentinel, .sentinel, .pinned], laidTests := true, laidLooks := .later }
def WeightSpreadsMatchSpecCardSaid : Prop := Claim7.holds Tryz.pinned (.plain (OpenSpec.ofChange weightSpreadsMatchSpecSpec)) weightSpreadsMatchSpecCard

/-- THE TIED CARD OF 'canvasslaw9.WeightResponsesMatchSpec'. -/
def weightResponsesMatchSpecCard : Claim7 := { stood := { row := weightResponsesMatchSpecRow, standIns := [], harness := (true, "38e3eb5c2346c1670fa038166e5a067dcbf0ce47808968d52ab238f670628f08"), looks := true }, kinds := [], alts := [], laidByText := true, laidKinds := [.data, .data, .data, .data, .sentinel, .sentinel, .pinned], laidTests := true, laidLooks := .later }
def WeightResponsesMatchSpecCardSaid : Prop := Claim7.holds Tryz.pinned (.plain (OpenSpec.ofChange weightResponsesMatchSpecSpec)) weightResponsesMatchSpecCard

/-- THE TIED CARD OF 'canvasslaw9.WeightRespondKeepsClasses'. -/
def weightRespondKeepsClassesCard : Claim7 := { stood := { row := weightRespondKeepsClassesRow, standIns := [], harness := (true, "38e3eb5c2346c1670fa038166e5a067dcbf0ce47808968d52ab238f670628f08"), looks := true }, kinds := [], alts := [], laidByText := true, laidKinds := [.data, .data, .data, .data, .sentinel, .sentinel, .pinned], laidTests := true, laidLooks := .later }
def WeightRespondKeepsClassesCardSaid : Prop := Claim7.holds Tryz.pinned (.plain (OpenSpec.ofChange weightRespondKeepsClassesSpec)) weightRespondKeepsClassesCard

/-- THE TIED CARD OF 'canvasslaw9.WeightTrimKeepsTheSum'. -/
def weightTrimKeepsTheSumCard : Claim7 := { stood := { row := weightTrimKeepsTheSumRow, standIns := [], harness := (true, "38e3eb5c2346c1670fa038166e5a067dcbf0ce47808968d52ab238f670628f08"), looks := true }, kinds := [], alts := [], laidByText := true, laidKinds := [.data, .data, .data, .data, .sentinel, .sentinel, .pinned], laidTests := true, laidLooks := .later }
def WeightTrimKeepsTheSumCardSaid : Prop := Claim7.holds Tryz.pinned (.plain (OpenSpec.ofChange weightTrimKeepsTheSumSpec)) weightTrimKeepsTheSumCard

/-- THE TIED CARD OF 'canvasslaw9.WeightTrimsMatchSpec'. -/
def weightTrimsMatchSpecCard : Claim7 := { stood := { row := weightTrimsMatchSpecRow, standIns := [], harness := (true, "38e3eb5c2346c1670fa038166e5a067dcbf0ce47808968d52ab238f670628f08"), looks := true }, kinds := [], alts := [], laidByText := true, laidKinds := [.data, .data, .data, .data, .sentinel, .sentinel, .pinned], laidTests := true, laidLooks := .later }
def WeightTrimsMatchSpecCardSaid : Prop := Claim7.holds Tryz.pinned (.plain (OpenSpec.ofChange weightTrimsMatchSpecSpec)) weightTrimsMatchSpecCard

/-- THE SECOND FORM's CARD OF 'canvasslaw9.WeightBasesMatchSpec'. -/
def weightBasesMatchSpecUptoCard : Claim7 := { stood := { row := weightBasesMatchSpecUptoRow, standIns := [], harness := (true, "38e3eb5c2346c1670fa038166e5a067dcbf0ce47808968d52ab238f670628f08"), looks := true }, kinds := [], alts := [], laidByText := true, laidKinds := [.data, .data, .data, .data, .sentinel, .sentinel, .pinned], laidTests := true, laidLooks := .later }
def WeightBasesMatchSpecUptoCardSaid : Prop := Claim7.holds Tryz.pinned (.plain (OpenSpec.upto weightBasesMatchSpecSpec)) weightBasesMatchSpecUptoCard

/-- THE SECOND FORM's CARD OF 'canvasslaw9.WeightSpreadsMatchSpec'. -/
def weightSpreadsMatchSpecUptoCard : Claim7 := { stood := { row := weightSpreadsMatchSpecUptoRow, standIns := [], harness := (true, "38e3eb5c2346c1670fa038166e5a067dcbf0ce47808968d52ab238f670628f08"), looks := true }, kinds := [], alts := [], laidByText := true, laidKinds := [.data, .data, .data, .data, .sentinel, .sentinel, .pinned], laidTests := true, laidLooks := .later }
def WeightSpreadsMatchSpecUptoCardSaid : Prop := Claim7.holds Tryz.pinned (.plain (OpenSpec.upto weightSpreadsMatchSpecSpec)) weightSpreadsMatchSpecUptoCard

/-- THE SECOND FORM's CARD OF 'canvasslaw9.WeightResponsesMatchSpec'. -/
def weightResponsesMatchSpecUptoCard : Claim7 := { stood := { row := weightResponsesMatchSpecUptoRow, standIns := [], harness := (true, "38e3eb5c2346c1670fa038166e5a067dcbf0ce47808968d52ab238f670628f08"), looks := true }, kinds := [], alts := [], laidByText := true, laidKinds := [.data, .data, .data, .data, .sentinel, .sentinel, .pinned], laidTests := true, laidLooks := .later }
def WeightResponsesMatchSpecUptoCardSaid : Prop := Claim7.holds Tryz.pinned (.plain (OpenSpec.upto weightResponsesMatchSpecSpec)) weightResponsesMatchSpecUptoCard

/-- THE SECOND FORM's CARD OF 'canvasslaw9.WeightRespondKeepsClasses'. -/
def weightRespondKeepsClassesUptoCard : Claim7 := { stood := { row := weightRespondKeepsClassesUptoRow, standIns := [], harness := (true, "38e3eb5c2346c1670fa038166e5a067dcbf0ce47808968d52ab238f670628f08"), looks := true }, kinds := [], alts := [], laidByText := true, laidKinds := [.data, .data, .data, .data, .sentinel, .sentinel, .pinned], laidTests := true, laidLooks := .later }
def WeightRespondKeepsClassesUptoCardSaid : Prop := Claim7.holds Tryz.pinned (.plain (OpenSpec.upto weightRespondKeepsClassesSpec)) weightRespondKeepsClassesUptoCard

/-- THE SECOND FORM's CARD OF 'canvasslaw9.WeightTrimKeepsTheSum'. -/
def weightTrimKeepsTheSumUptoCard : Claim7 := { stood := { row := weightTrimKeepsTheSumUptoRow, standIns := [], harness := (true, "38e3eb5c2346c1670fa038166e5a067dcbf0ce47808968d52ab238f670628f08"), looks := true }, kinds := [], alts := [], laidByText := true, laidKinds := [.data, .data, .data, .data, .sentinel, .sentinel, .pinned], laidTests := true, laidLooks := .later }
def WeightTrimKeepsTheSumUptoCardSaid : Prop := Claim7.holds Tryz.pinned (.plain (OpenSpec.upto weightTrimKeepsTheSumSpec)) weightTrimKeepsTheSumUptoCard

/-- THE SECOND FORM's CARD OF 'canvasslaw9.WeightTrimsMatchSpec'. -/
def weightTrimsMatchSpecUptoCard : Claim7 := { stood := { row := weightTrimsMatchSpecUptoRow, standIns := [], harness := (true, "38e3eb5c2346c1670fa038166e5a067dcbf0ce47808968d52ab238f670628f08"), looks := true }, kinds := [], alts := [], laidByText := true, laidKinds := [.data, .data, .data, .data, .sentinel, .sentinel, .pinned], laidTests := true, laidLooks := .later }
def WeightTrimsMatchSpecUptoCardSaid : Prop := Claim7.holds Tryz.pinned (.plain (OpenSpec.upto weightTrimsMatchSpecSpec)) weightTrimsMatchSpecUptoCard
end Rows
end Go.Proofs.YtdlnhmcgnpjooaaGreatDoor
