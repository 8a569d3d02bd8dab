/- map[string]bool that a call makes as a set of strings. Conditions: none. -/
import Derived.Test.YtapkkplndhbapaaBase
import Derived.Test.YtapkkplndhbapaaMap
namespace Go.Proofs.Ytapkkplndhbapaa
open Go.RowKit
set_option linter.unusedVariables false
def vB (x : Bool) (v : Value) : Prop := v = .bool x
/-- Block r is a map of strings; those of L are in it, as true. -/
def SeenW (w : World) (r : Nat) (L : List ByteArray) : Prop := ∃ o M, w.heap[r]? = some o ∧ MapO vB o M ∧ ∀ k : ByteArray, mget M k = if k ∈ L then some true else none
theorem SeenW.lt {w : World} {r : Nat} {L : List ByteArray} (h : SeenW w r L) : r < w.heap.size := by obtain ⟨o, M, h1, _⟩ := h; exact (Array.getElem?_eq_some_iff.1 h1).1
theorem SeenW.kept {w w' : World} {r : Nat} {L : List ByteArray} (h : SeenW w r L) (hb : w'.heap[r]? = w.heap[r]?) : SeenW w' r L := by obtain ⟨o, M, h1, h2⟩ := h; exact ⟨o, M, hb.trans h1, h2⟩
theorem SeenW.callB {w w' : World} {r : Nat} {L : List ByteArray} (h : SeenW w r L) (hb : Below w.heap.size w w') : SeenW w' r L := h.kept (hb.block r h.lt)
theorem SeenW.new (w : World) : SeenW (w.alloc (.map #[] 0)) w.heap.size [] := ⟨_, [], heap_alloc_new w _, MapO.empty, fun k => by simp [mget_nil]⟩
theorem zeroB (w : World) : (zeroValue 4).run Try.prog w = .ok (.bool false) w := by kernel_rfl
theorem SeenW.look {w : World} {r : Nat} {L : List ByteArray} (h : SeenW w r L) (k : ByteArray) {b : Bool} (hb : decide (k ∈ L) = b) :
    (Instr.lookup 53 (.map (some r)) (.string k) false).run Try.prog w = .ok (.bool b) w := by
  obtain ⟨o, M, h1, h2, h3⟩ := h
  rcases run_lookup (P := Try.prog) (w := w) Try.underlying53 Try.underlying9 h1 h2 k false (zeroB w) with ⟨x, v, q1, q2, q3⟩ | ⟨q1, q3⟩
  · cases q2
    rw [h3] at q1
    split at q1
    · next hk => cases q1; rw [← hb, decide_eq_true hk]; exact q3
    · cases q1
  · rw [h3] at q1
    split at q1
    · cases q1
    · next hk => rw [← hb, decide_eq_false hk]; exact q3
theorem SeenW.put {w : World} {r : Nat} {L : List ByteArray} (h : SeenW w r L) (k : ByteArray) :
    ∃ o, (Instr.mapUpdate 53 (.map (some r)) (.string k) (.bool true)).run Try.prog w = .ok () (setMap w r o) ∧ SeenW (setMap w r o) r (k :: L) := by
  obtain ⟨o, M, h1, h2, h3⟩ := h
  obtain ⟨a, b⟩ := run_mapUpdate (P := Try.prog) (w := w) Try.underlying53 Try.underlying9 h1 h2 k (x := true) (v := .bool true) rfl
  refine ⟨_, a, _, _, setMap_same _ (Array.getElem?_eq_some_iff.1 h1).1, b, fun k' => ?_⟩
  rw [mget_mput, h3]
  by_cases e : k' = k
  · simp [e]
  · simp [e]
end Go.Proofs.Ytapkkplndhbapaa
