/- The walks of up and measure. Conditions: the tree is in memory as told. -/
import Derived.Test.YtapkkplndhbapaaK3
namespace Go.Proofs.Ytapkkplndhbapaa
open Go.RowKit
set_option linter.unusedVariables false

def OwnPost (w0 : World) (φ0 : Phi) (E : TypeId) (xs : List Int) (e : Ending) (w' : World) : Prop :=
  ∃ a cap φ', e = .returned (.slice a xs.length cap) ∧ Inv w0.heap.size w0 φ0 φ' w' ∧ Own w0.heap.size φ' w' E a cap xs
/-- What 'at' answers for a frame. -/
def atF (l : List Nod) (c : Int) : Option Int := (ix l c).map (fun i : Nat => (i : Int))
theorem atF_isSome (l : List Nod) (k : Int) : (atF l k).isSome = (ix l k).isSome := by unfold atF; simp

theorem lvl_of {l : List Nod} {c : Int} {m : Nat} (h : lvA l l.length c = some m) : lvl l c = m := by rw [lvl, h]; rfl
theorem atF_some {l : List Nod} {c : Int} {i : Nat} (h : ix l c = some i) : atF l c = some (i : Int) := by rw [atF, h]; rfl
theorem TrOk.lv {l : List Nod} {n : Nat} (h : TrOk l n) {c : Int} (hc : c = 0 ∨ (ix l c).isSome = true) : ∃ m, lvA l n c = some m ∧ m ≤ 8 := by
  rcases hc with rfl | hc
  · exact ⟨0, lvA_zero _ _, by omega⟩
  · obtain ⟨i, hi, he, _⟩ := h.up hc
    rw [← he]; exact h.lev i hi

end Go.Proofs.Ytapkkplndhbapaa
