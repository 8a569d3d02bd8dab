/- The walks of find, element, recordOf, record. Conditions: none beyond what the claim form gives. -/
import Derived.Test.YtkfmadeeobalaaaDoorD7
namespace Go.Proofs.YtkfmadeeobalaaaDoor
open Go.RowKit
set_option linter.unusedVariables false
/-- Whether an element is a field's. -/
def atB (nm : ByteArray) (g : Giv) : Bool := decide (g.1.1 = nm) && decide (g.1.2.length = 0)
/-- The number of a field's element, or -1. -/
def findI (l : List Giv) (nm : ByteArray) : Int := match (List.range l.length).find? (fun i => atB nm (l.getD i giv0)) with
  | some i => i
  | none => -1
theorem findI_some {l : List Giv} {nm : ByteArray} {k n : Nat} (hn : l.length = n) (hk : k < n) (h : ∀ i, i < k → atB nm (l.getD i giv0) = false) (h1 : atB nm (l.getD k giv0) = true) : findI l nm = k := by
  unfold findI
  rw [hn]
  have : (List.range n).find? (fun i => atB nm (l.getD i giv0)) = some k := by
    rw [List.find?_range_eq_some]
    exact ⟨h1, List.mem_range.2 hk, fun j hj => by rw [h j hj]; rfl⟩
  rw [this]
theorem findI_none {l : List Giv} {nm : ByteArray} {n : Nat} (hn : l.length = n) (h : ∀ i, i < n → atB nm (l.getD i giv0) = false) : findI l nm = -1 := by
  unfold findI
  rw [hn]
  have : (List.range n).find? (fun i => atB nm (l.getD i giv0)) = none := by
    rw [List.find?_eq_none]
    intro i hi
    rw [h i (List.mem_range.1 hi)]
    simp
  rw [this]
theorem findI_cases (l : List Giv) (nm : ByteArray) : (findI l nm = -1 ∧ ∀ i, i < l.length → atB nm (l.getD i giv0) = false) ∨ ∃ k : Nat, k < l.length ∧ findI l nm = k ∧ atB nm (l.getD k giv0) = true ∧ ∀ i, i < k → atB nm (l.getD i giv0) = false := by
  by_cases h : ∀ i, i < l.length → atB nm (l.getD i giv0) = false
  · exact .inl ⟨findI_none rfl h, h⟩
  · have : ∃ i, i < l.length ∧ atB nm (l.getD i giv0) = true ∧ ∀ j, j < i → atB nm (l.getD j giv0) = false := by
      apply Classical.byContradiction
      intro hc
      apply h
      intro i
      induction i using Nat.strongRecOn with
      | _ i ih =>
        intro hi
        cases hb : atB nm (l.getD i giv0) with
        | false => rfl
        | true => exact absurd ⟨i, hi, hb, fun j hj => ih j hj (by omega)⟩ hc
    obtain ⟨i, hi, h1, h2⟩ := this
    exact .inr ⟨i, hi, findI_some rfl hi h2 h1, h1, h2⟩
theorem find1_any {w : World} {φ : Phi} (hφ : Fz φ w) {b : Nat} {nm : ByteArray} (hk : φ b = some (.cells #[.string nm] 9)) (n2 : ByteArray) (ar : Option Addr) (nr cr : Nat) (v2 v3 v4 v5 : Value) {o : Bool} (ho : Hid ((decide (n2 = nm) && decide (nr = 0)) = o)) :
    Calls Tryd.prog 94 #[.agg #[.string n2, .slice ar nr cr, v2, v3, v4, v5], .pointer (some ⟨b, 0, none⟩)] w (fun e w' => e = .returned (.bool o) ∧ Below w.heap.size w w') := by
  have hB := Lib.hid ((Below.refl w.heap.size w).alloc (Nat.le_refl _) (.cells #[.string n2, .slice ar nr cr, v2, v3, v4, v5] 54))
  have p0 : (w.alloc (.cells #[.string n2, .slice ar nr cr, v2, v3, v4, v5] 54)).cell? ⟨b, 0, none⟩ = some (.string nm) := ((hφ.alloc _).blk hk).cell 0
  by_cases hn : n2 = nm
  · have hs := str_eq_t hn
    have H : Hid (decide (nr = 0) = o) := Lib.hid (by rw [← ho.out]; simp [hn])
    clear hn
    by_cases hz : nr = 0
    · have hb : ((nr : Int) == 0) = true := by simp [hz]
      have H2 : Hid (o = true) := Lib.hid (by rw [← H.out]; simp [hz])
      clear hz
      go_enter Tryd.func94, Tryd.ntmps94
      go_wp2
      go_ret
      exact ⟨ret_bool H2.out.symm, hB.out⟩
    · have hb : ((nr : Int) == 0) = false := by simp; omega
      have H2 : Hid (o = false) := Lib.hid (by rw [← H.out]; simp [hz])
      clear hz
      go_enter Tryd.func94, Tryd.ntmps94
      go_wp2
      go_ret
      exact ⟨ret_bool H2.out.symm, hB.out⟩
  · have hs := str_eq_f hn
    have H2 : Hid (o = false) := Lib.hid (by rw [← ho.out]; simp [hn])
    clear hn
    go_enter Tryd.func94, Tryd.ntmps94
    go_wp2
    go_ret
    exact ⟨ret_bool H2.out.symm, hB.out⟩
end Go.Proofs.YtkfmadeeobalaaaDoor
