/- Slices written out, S{x, ..}: the call owns them. Conditions: none. -/
import Derived.Test.YtambgcijceecpaaDoorBase
namespace Go.Proofs.YtambgcijceecpaaDoor
open Go.RowKit
set_option linter.unusedVariables false
theorem Own.lit {α : Type} [Rep α] {B : Nat} {w0 w : World} {φ0 φ : Phi} (hi : Inv B w0 φ0 φ w) (E : TypeId) {xs : List α} {arr : Array Value} (h : RepL φ xs arr.toList) (hm : xs.length ≤ maxLen) : Own B φ (w.alloc (.cells arr E)) E (some ⟨w.heap.size, 0, none⟩) xs.length xs := by
  have hl := h.len
  have hs : arr.size = xs.length * Rep.size α := by rw [← hl]; simp
  refine ⟨⟨arr.toList, ⟨by rw [hl], .inr ⟨w.heap.size, xs.length, arr, rfl, hi.size, heap_alloc_new w _, Nat.le_refl _, hm, hs, ?_⟩⟩, h⟩, fun x hx => ?_⟩
  · rw [List.take_of_length_le]; rw [hl]; exact Nat.le_refl _
  · cases hx
    cases hφ : φ w.heap.size with
    | none => rfl
    | some ob => have := hi.fz.mlt hφ; omega
/-- A row of its own, frozen at once. -/
theorem SlV.lit {α : Type} [Rep α] {w : World} {φ : Phi} (hφ : Fz φ w) (E : TypeId) {xs : List α} {arr : Array Value} (h : RepL φ xs arr.toList) (hm : xs.length ≤ maxLen) : ∃ φ', φ.le φ' ∧ Inv w.heap.size w φ φ' (w.alloc (.cells arr E)) ∧ SlV φ' (some ⟨w.heap.size, 0, none⟩) xs.length xs := by
  obtain ⟨φ', h1, h2, h3, _⟩ := (Own.lit (Inv.start hφ) E h hm).release ((Inv.start hφ).alloc _)
  exact ⟨φ', h1, h2, h3⟩
end Go.Proofs.YtambgcijceecpaaDoor
