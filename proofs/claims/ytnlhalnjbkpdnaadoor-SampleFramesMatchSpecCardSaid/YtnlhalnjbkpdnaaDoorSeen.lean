/- map[string]bool that a call makes as a set of strings. Conditions: none. -/
import Derived.Test.YtnlhalnjbkpdnaaDoorBase
import Derived.Test.YtnlhalnjbkpdnaaDoorMap
namespace Go.Proofs.YtnlhalnjbkpdnaaDoor
open Go.RowKit
set_option linter.unusedVariables false
set_option linter.unusedSimpArgs false
def vB (x : Bool) (v : Value) : Prop := v = .bool x
/-- Block r is a map of strings; those of L are in it, as true. -/
def SeenW (w : World) (r : Nat) (L : List ByteArray) : Prop := ∃ o M, w.heap[r]? = some o ∧ MapO vB o M ∧ ∀ k : ByteArray, mget M k = if k ∈ L then some true else none
theorem SeenW.lt {w : World} {r : Nat} {L : List ByteArray} (h : SeenW w r L) : r < w.heap.size := by obtain ⟨o, M, h1, _⟩ := h; exact (Array.getElem?_eq_some_iff.1 h1).1
theorem SeenW.kept {w w' : World} {r : Nat} {L : List ByteArray} (h : SeenW w r L) (hb : w'.heap[r]? = w.heap[r]?) : SeenW w' r L := by obtain ⟨o, M, h1, h2⟩ := h; exact ⟨o, M, hb.trans h1, h2⟩
theorem SeenW.callB {w w' : World} {r : Nat} {L : List ByteArray} (h : SeenW w r L) (hb : Below w.heap.size w w') : SeenW w' r L := h.kept (hb.block r h.lt)
theorem SeenW.new (w : World) : SeenW (w.alloc (.map #[] 0)) w.heap.size [] := ⟨_, [], heap_alloc_new w _, MapO.empty, fun k => by simp [mget_nil]⟩
theorem zeroB (w : World) : (zeroValue 4).run Tryd.prog w = .ok (.bool false) w := by kernel_rfl
end Go.Proofs.YtnlhalnjbkpdnaaDoor
