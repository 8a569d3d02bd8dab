/-
  No cell of these rows narrows 'for every input' (looked for: loops, veiled, ifaces, maps, wideKeys, modest, calm, conditions, laid).
  DERIVED. THE GIVEN ROWS OF THIS SEAT. 5 by the template 'for every input the law returns true; each argument reads behind the call as it read before'; 0 by the template 'total and deterministic' (their statements: YthnmglckhfajeaaTotals.lean).
  GIVEN WITH THE SEED: the statements are not yours to turn. If you find one false, say at which input.
  Laid BY PROGRAM, IN A SANDBOX (cutbox-rows.mjs): the forced cells as the released guide's own fill.sh prints them over the translation a37fb4ba1fbd3f24… (all of the seat's roots in one cut). By AI agents, Wed Nov 11 2026. No macro, syntax, notation, axiom, sorry.
-/
import Derived.Test.YthnmglckhfajeaaChecked
import GoSem.Claim
import GoSem.ClaimJoined
import GoSem.ClaimMapViews
import Derived.JoinedTies
import Derived.KernelRfl
namespace Go.Proofs.Ythnmglckhfajeaa
/- THE CELL 'sum', in the pinned program and in every row, IS THE sha256 OF THE DUMP (.gsa) THAT YthnmglckhfajeaaProg.lean LOADS. Nothing in Lean hashes anything: it is a label: what it is worth is what the hold of that sum in a sandbox is worth. -/
noncomputable def Try.pinned : Pinned := { name := "ythnmglckhfajeaa", sum := "a37fb4ba1fbd3f24eeeb794a1f8dfdb893e7757033c4c9ab441cfadcb2e3f51f", checked := Try.checked }
namespace Rows
def none {H : Type} : Left H := { results := [], args := [] }

/-- 'canvasslaw8.CodeDistancesAreDistances': WHATEVER THE INPUT: true; the input reads as it did. -/
def codeDistancesAreDistancesSpec : ChangeSpec := { name := "codeDistancesAreDistances", fn := fun _ => fun
  | [d1, d2, d3, d4] => { results := [.lit (.bool true)], args := [d1, d2, d3, d4] }
  | _ => none }
def codeDistancesAreDistancesRow : OpenClaim := { program := "ythnmglckhfajeaa", sum := "a37fb4ba1fbd3f24eeeb794a1f8dfdb893e7757033c4c9ab441cfadcb2e3f51f", func := "canvass/canvasslaw8.CodeDistancesAreDistances", spec := "codeDistancesAreDistances", apart := false }
def CodeDistancesAreDistancesSaid : Prop := codeDistancesAreDistancesRow.holds Try.pinned (OpenSpec.ofChange codeDistancesAreDistancesSpec)

/-- ITS FALSE NEIGHBOUR: 'it returns false'. Refute it at one input. -/
def codeDistancesAreDistancesWrong : ChangeSpec := { name := "codeDistancesAreDistances", fn := fun _ => fun
  | [d1, d2, d3, d4] => { results := [.lit (.bool false)], args := [d1, d2, d3, d4] }
  | _ => none }
def CodeDistancesAreDistancesWrongFalsely : Prop := codeDistancesAreDistancesRow.holds Try.pinned (OpenSpec.ofChange codeDistancesAreDistancesWrong)

/-- 'canvasslaw8.CodeLiftsAgree': WHATEVER THE INPUT: true; the input reads as it did. -/
def codeLiftsAgreeSpec : ChangeSpec := { name := "codeLiftsAgree", fn := fun _ => fun
  | [d1, d2, d3, d4] => { results := [.lit (.bool true)], args := [d1, d2, d3, d4] }
  | _ => none }
def codeLiftsAgreeRow : OpenClaim := { program := "ythnmglckhfajeaa", sum := "a37fb4ba1fbd3f24eeeb794a1f8dfdb893e7757033c4c9ab441cfadcb2e3f51f", func := "canvass/canvasslaw8.CodeLiftsAgree", spec := "codeLiftsAgree", apart := false }
def CodeLiftsAgreeSaid : Prop := codeLiftsAgreeRow.holds Try.pinned (OpenSpec.ofChange codeLiftsAgreeSpec)

/-- ITS FALSE NEIGHBOUR: 'it returns false'. Refute it at one input. -/
def codeLiftsAgreeWrong : ChangeSpec := { name := "codeLiftsAgree", fn := fun _ => fun
  | [d1, d2, d3, d4] => { results := [.lit (.bool false)], args := [d1, d2, d3, d4] }
  | _ => none }
def CodeLiftsAgreeWrongFalsely : Prop := codeLiftsAgreeRow.holds Try.pinned (OpenSpec.ofChange codeLiftsAgreeWrong)

/-- 'canvasslaw8.CodeFinalsMatchSpec': WHATEVER THE INPUT: true; the input reads as it did. -/
def codeFinalsMatchSpecSpec : ChangeSpec := { name := "codeFinalsMatchSpec", fn := fun _ => fun
  | [d1, d2] => { results := [.lit (.bool true)], args := [d1, d2] }
  | _ => none }
def codeFinalsMatchSpecRow : OpenClaim := { program := "ythnmglckhfajeaa", sum := "a37fb4ba1fbd3f24eeeb794a1f8dfdb893e7757033c4c9ab441cfadcb2e3f51f", func := "canvass/canvasslaw8.CodeFinalsMatchSpec", spec := "codeFinalsMatchSpec", apart := false }
def CodeFinalsMatchSpecSaid : Prop := codeFinalsMatchSpecRow.holds Try.pinned (OpenSpec.ofChange codeFinalsMatchSpecSpec)

/-- ITS FALSE NEIGHBOUR: 'it returns false'. Refute it at one input. -/
def codeFinalsMatchSpecWrong : ChangeSpec := { name := "codeFinalsMatchSpec", fn := fun _ => fun
  | [d1, d2] => { results := [.lit (.bool false)], args := [d1, d2] }
  | _ => none }
def CodeFinalsMatchSpecWrongFalsely : Prop := codeFinalsMatchSpecRow.holds Try.pinned (OpenSpec.ofChange codeFinalsMatchSpecWrong)

/-- 'canvasslaw8.CodeMovesMatchSpec': WHATEVER THE INPUT: true; the input reads as it did. -/
def codeMovesMatchSpecSpec : ChangeSpec := { name := "codeMovesMatchSpec", fn := fun _ => fun
  | [d1, d2, d3, d4, d5] => { results := [.lit (.bool true)], args := [d1, d2, d3, d4, d5] }
  | _ => none }
def codeMovesMatchSpecRow : OpenClaim := { program := "ythnmglckhfajeaa", sum := "a37fb4ba1fbd3f24eeeb794a1f8dfdb893e7757033c4c9ab441cfadcb2e3f51f", func := "canvass/canvasslaw8.CodeMovesMatchSpec", spec := "codeMovesMatchSpec", apart := false }
def CodeMovesMatchSpecSaid : Prop := codeMovesMatchSpecRow.holds Try.pinned (OpenSpec.ofChange codeMovesMatchSpecSpec)

/-- ITS FALSE NEIGHBOUR: 'it returns false'. Refute it at one input. -/
def codeMovesMatchSpecWrong : ChangeSpec := { name := "codeMovesMatchSpec", fn := fun _ => fun
  | [d1, d2, d3, d4, d5] => { results := [.lit (.bool false)], args := [d1, d2, d3, d4, d5] }
  | _ => none }
def CodeMovesMatchSpecWrongFalsely : Prop := codeMovesMatchSpecRow.holds Try.pinned (OpenSpec.ofChange codeMovesMatchSpecWrong)

/-- 'canvasslaw8.CodeWordsMatchSpec': WHATEVER THE INPUT: true; the input reads as it did. -/
def codeWordsMatchSpecSpec : ChangeSpec := { name := "codeWordsMatchSpec", fn := fun _ => fun
  | [d1, d2] => { results := [.lit (.bool true)], args := [d1, d2] }
  | _ => none }
def codeWordsMatchSpecRow : OpenClaim := { program := "ythnmglckhfajeaa", sum := "a37fb4ba1fbd3f24eeeb794a1f8dfdb893e7757033c4c9ab441cfadcb2e3f51f", func := "canvass/canvasslaw8.CodeWordsMatchSpec", spec := "codeWordsMatchSpec", apart := false }
def CodeWordsMatchSpecSaid : Prop := codeWordsMatchSpecRow.holds Try.pinned (OpenSpec.ofChange codeWordsMatchSpecSpec)

/-- ITS FALSE NEIGHBOUR: 'it returns false'. Refute it at one input. -/
def codeWordsMatchSpecWrong : ChangeSpec := { name := "codeWordsMatchSpec", fn := fun _ => fun
  | [d1, d2] => { results := [.lit (.bool false)], args := [d1, d2] }
  | _ => none }
def CodeWordsMatchSpecWrongFalsely : Prop := codeWordsMatchSpecRow.holds Try.pinned (OpenSpec.ofChange codeWordsMatchSpecWrong)

/- THE SECOND FORM. 'bulk': how many values and letters a reading holds, each counted each time it is reached (what is shared counts as often as it is met; a slice's spare places count too). A statement '..UptoSaid' is the law's where the arguments, and the package variables that the reading takes, are together of bulk at most 1048576: NARROWER than '..Said'. Prove '..Said' where nothing that the law and all that it calls make is longer than what came in: it says more and counts as full. Else prove '..UptoSaid'. A law counts once. -/
mutual
def uptoBulk {H : Type} : DataW H → Nat
  | .lit (.string bytes) => bytes.length + 1
  | .lit _ => 1
  | .nil => 1
  | .ptr d => uptoBulk d + 1
  | .slice elems spare => uptoBulkAll elems + uptoBulkAll spare + 1
  | .agg parts => uptoBulkAll parts + 1
  | .iface _ d => uptoBulk d + 1
  | .map entries => uptoBulkEntries entries + 1
  | .held _ => 1
def uptoBulkAll {H : Type} : List (DataW H) → Nat
  | [] => 0
  | d :: r => uptoBulk d + uptoBulkAll r
def uptoBulkEntries {H : Type} : List (Lit × DataW H) → Nat
  | [] => 0
  | x :: r => uptoBulkEntry x + uptoBulkEntries r
def uptoBulkEntry {H : Type} : Lit × DataW H → Nat
  | (.string bytes, d) => bytes.length + uptoBulk d + 1
  | (_, d) => uptoBulk d + 1
 end
def uptoSmall : (H : Type) → List (DataW H) → Bool := fun _ ds => decide (uptoBulkAll ds ≤ 1048576)
def OpenSpec.upto (s : _root_.Go.ChangeSpec) : _root_.Go.OpenSpec := { _root_.Go.OpenSpec.ofChange s with cond := some uptoSmall }

/-- 'canvasslaw8.CodeDistancesAreDistances', WHERE WHAT IT READS IS OF BULK AT MOST 1048576: true; the input reads as it did. -/
def codeDistancesAreDistancesUptoRow : OpenClaim := { program := "ythnmglckhfajeaa", sum := "a37fb4ba1fbd3f24eeeb794a1f8dfdb893e7757033c4c9ab441cfadcb2e3f51f", func := "canvass/canvasslaw8.CodeDistancesAreDistances", spec := "codeDistancesAreDistances", apart := false, narrowed := true }
def CodeDistancesAreDistancesUptoSaid : Prop := codeDistancesAreDistancesUptoRow.holds Try.pinned (OpenSpec.upto codeDistancesAreDistancesSpec)

/-- 'canvasslaw8.CodeLiftsAgree', WHERE WHAT IT READS IS OF BULK AT MOST 1048576: true; the input reads as it did. -/
def codeLiftsAgreeUptoRow : OpenClaim := { program := "ythnmglckhfajeaa", sum := "a37fb4ba1fbd3f24eeeb794a1f8dfdb893e7757033c4c9ab441cfadcb2e3f51f", func := "canvass/canvasslaw8.CodeLiftsAgree", spec := "codeLiftsAgree", apart := false, narrowed := true }
def CodeLiftsAgreeUptoSaid : Prop := codeLiftsAgreeUptoRow.holds Try.pinned (OpenSpec.upto codeLiftsAgreeSpec)

/-- 'canvasslaw8.CodeFinalsMatchSpec', WHERE WHAT IT READS IS OF BULK AT MOST 1048576: true; the input reads as it did. -/
def codeFinalsMatchSpecUptoRow : OpenClaim := { program := "ythnmglckhfajeaa", sum := "a37fb4ba1fbd3f24eeeb794a1f8dfdb893e7757033c4c9ab441cfadcb2e3f51f", func := "canvass/canvasslaw8.CodeFinalsMatchSpec", spec := "codeFinalsMatchSpec", apart := false, narrowed := true }
def CodeFinalsMatchSpecUptoSaid : Prop := codeFinalsMatchSpecUptoRow.holds Try.pinned (OpenSpec.upto codeFinalsMatchSpecSpec)

/-- 'canvasslaw8.CodeMovesMatchSpec', WHERE WHAT IT READS IS OF BULK AT MOST 1048576: true; the input reads as it did. -/
def codeMovesMatchSpecUptoRow : OpenClaim := { program := "ythnmglckhfajeaa", sum := "a37fb4ba1fbd3f24eeeb794a1f8dfdb893e7757033c4c9ab441cfadcb2e3f51f", func := "canvass/canvasslaw8.CodeMovesMatchSpec", spec := "codeMovesMatchSpec", apart := false, narrowed := true }
def CodeMovesMatchSpecUptoSaid : Prop := codeMovesMatchSpecUptoRow.holds Try.pinned (OpenSpec.upto codeMovesMatchSpecSpec)

/-- 'canvasslaw8.CodeWordsMatchSpec', WHERE WHAT IT READS IS OF BULK AT MOST 1048576: true; the input reads as it did. -/
def codeWordsMatchSpecUptoRow : OpenClaim := { program := "ythnmglckhfajeaa", sum := "a37fb4ba1fbd3f24eeeb794a1f8dfdb893e7757033c4c9ab441cfadcb2e3f51f", func := "canvass/canvasslaw8.CodeWordsMatchSpec", spec := "codeWordsMatchSpec", apart := false, narrowed := true }
def CodeWordsMatchSpecUptoSaid : Prop := codeWordsMatchSpecUptoRow.holds Try.pinned (OpenSpec.upto codeWordsMatchSpecSpec)

end Rows
end Go.Proofs.Ythnmglckhfajeaa
