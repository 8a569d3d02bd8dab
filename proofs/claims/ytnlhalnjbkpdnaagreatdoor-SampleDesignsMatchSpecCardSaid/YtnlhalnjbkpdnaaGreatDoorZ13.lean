/- The walks of CheckFrame and Strata, the program's side, of slices.Equal at strata, and of the law SampleFramesMatchSpec. Conditions: the library's table of blanks reads as it was laid; those that the claim form gives. -/
import Derived.Test.YtnlhalnjbkpdnaaGreatDoorZ12
import Derived.Test.YtnlhalnjbkpdnaaGreatDoorZE
import Derived.Laws.StructEq
namespace Go.Proofs.YtnlhalnjbkpdnaaGreatDoor
open Go.RowKit Go.Sort
set_option linter.unusedVariables false
set_option linter.unusedSimpArgs false
def lyr0 : Lyr := (ByteArray.empty, [], 0, [])
theorem SlV.lyrD {φ : Phi} {a : Option Addr} {cap : Nat} {xs : List Lyr} (h : SlV φ a cap xs) {k n : Nat} (hn : Hid (xs.length = n)) (hk : k < n) :
    ∃ b off, a = some ⟨b, off, none⟩ ∧ ∀ k, k < n → ∃ (a1 : Option Addr) (c1 : Nat) (a2 : Option Addr) (c2 : Nat), ∀ w, Fz φ w → b < w.heap.size ∧ w.cell? ⟨b, off + k * 4, none⟩ = some (.string (xs.getD k lyr0).1) ∧ w.cell? ⟨b, off + k * 4 + 1, none⟩ = some (.slice a1 (xs.getD k lyr0).2.1.length c1) ∧ w.cell? ⟨b, off + k * 4 + 2, none⟩ = some (.int .i64 (xs.getD k lyr0).2.2.1) ∧ w.cell? ⟨b, off + k * 4 + 3, none⟩ = some (.slice a2 (xs.getD k lyr0).2.2.2.length c2) := by
  obtain ⟨b, off, ha, hc⟩ := h.cellsD lyr0 hn hk
  refine ⟨b, off, ha, fun k hk => ?_⟩
  obtain ⟨cs, ⟨c, d, rfl, h1, x2, d2, rfl, ⟨a1, c1, rfl, h2⟩, x3, d3, rfl, h3, ⟨a2, c2, rfl, h4⟩⟩, hj⟩ := hc k hk
  cases h1; cases h3
  have j0 := hj 0 (by simp)
  have j1 := hj 1 (by simp)
  have j2 := hj 2 (by simp)
  have j3 := hj 3 (by simp)
  simp [Rep.size] at j0 j1 j2 j3
  exact ⟨a1, c1, a2, c2, fun w hw => ⟨hw.lt j0, hw.cell j0, hw.cell j1, hw.cell j2, hw.cell j3⟩⟩
theorem rUns (H : Type) (enc : TypeId × Value → H) (W : World) : Reads enc Tryz.prog W 25 (List Unt) (fun xs => xs.length * Tryz.prog.bytesOf 64 ≤ reachBytes ∧ ∀ x ∈ xs, IsI64 x.1 ∧ StrG x.2.1 ∧ IsI64 x.2.2.1 ∧ IsI64 x.2.2.2) :=
  Reads.slice Tryz.underlying25 (by kernel_rfl) (by decide) (Reads.struct4 (s1 := 1) (s2 := 1) (s3 := 1) (s4 := 1) Tryz.underlying64 (by kernel_rfl) (by kernel_rfl) (by kernel_rfl) (by kernel_rfl) (by kernel_rfl) (by kernel_rfl) (by kernel_rfl) (by kernel_rfl) (by kernel_rfl) (rInt H enc W) (rStr H enc W) (rInt H enc W) (rInt H enc W))
theorem uns_len {l : List Unt} (h : l.length * Tryz.prog.bytesOf 64 ≤ reachBytes) : l.length ≤ 9223372036854775807 := by
  have hb : Tryz.prog.bytesOf 64 = 40 := by kernel_rfl
  rw [hb] at h; unfold reachBytes at h; omega
end Go.Proofs.YtnlhalnjbkpdnaaGreatDoor
