/- The plain law of weights by chances; lists of ratios and of picks in memory. Conditions: none; plain Lean. -/
import Derived.Test.YtmlpjffnmkndoaaGreatDoorP12
namespace Go.Proofs.YtmlpjffnmkndoaaGreatDoor
open Go.RowKit
set_option linter.unusedVariables false
set_option linter.unusedSimpArgs false
abbrev Rti := ByteArray × ByteArray
def rti0 : Rti := (⟨#[]⟩, ⟨#[]⟩)
theorem SlV.rtisD {φ : Phi} {a : Option Addr} {cap : Nat} {xs : List Rti} (h : SlV φ a cap xs) {k n : Nat} (hn : Hid (xs.length = n)) (hk : k < n) :
  ∃ b off, a = some ⟨b, off, none⟩ ∧ ∀ k, k < n → ∀ w, Fz φ w → w.cell? ⟨b, off + k * 2, none⟩ = some (.string (xs.getD k rti0).1) ∧ w.cell? ⟨b, off + k * 2 + 1, none⟩ = some (.string (xs.getD k rti0).2) := by
 obtain ⟨b, off, ha, hc⟩ := h.cellsD rti0 hn hk
 refine ⟨b, off, ha, fun k hk w hw => ?_⟩
 obtain ⟨cs, hr, hj⟩ := hc k hk
 obtain ⟨c, d, rfl, h1, h2⟩ := hr
 have h1' : c = [.string (xs.getD k rti0).1] := h1
 have h2' : d = [.string (xs.getD k rti0).2] := h2
 subst h1'; subst h2'
 have j0 := hj 0 (by simp)
 have j1 := hj 1 (by simp)
 simp [Rep.size] at j0 j1
 exact ⟨hw.cell j0, hw.cell j1⟩
theorem slRti : SliceTy Tryz.prog 24 32 (.agg #[.string ⟨#[]⟩, .string ⟨#[]⟩]) (Rep.size Rti) 32 := ⟨Tryz.underlying24, by kernel_rfl, rfl, by decide, by decide⟩
theorem p10_lt {j k : Nat} (h : j < 9 * k) : p10 j < lb ^ k := by
 unfold p10
 rw [lb_ten, ← Nat.pow_mul]
 exact Nat.pow_lt_pow_right (by decide) h
theorem lenB_p {j k : Nat} (h : j < 9 * k) (hk : k ≤ 1000000000) : LenB (p10 j) := Nat.le_trans (limbs_le (p10_lt h)) hk
theorem shoF_ok {n d : ByteArray} (h : shoF n d = 0) : ratF n d = 0 ∧ (bodyB n).size ≤ 12 ∧ d.size ≤ 12 := by
 unfold shoF at h
 split at h
 ·next hne => exact absurd h hne
 ·next hne =>
  split at h
  ·exact absurd h (by decide)
  ·next h2 => exact ⟨by simpa using hne, by omega, by omega⟩
/-- A short ratio's numbers. -/
theorem sho_lt {n d : ByteArray} (h : shoF n d = 0) : dV (bodyB n).data.toList ≤ 1000000000000 ∧ dV d.data.toList ≤ 1000000000000 := by
 obtain ⟨h1, h2, h3⟩ := shoF_ok h
 have hok := ratF_ok h1
 have e : (1000000000000 : Nat) = 10 ^ 12 := by decide
 rw [e]
 exact ⟨Nat.le_trans (Nat.le_of_lt hok.num_lt) (Nat.pow_le_pow_right (by decide) h2), Nat.le_trans (Nat.le_of_lt hok.den_lt) (Nat.pow_le_pow_right (by decide) h3)⟩
theorem p10_13 : 10000000000000 ≤ p10 2000 := by
 have e : (10000000000000 : Nat) = 10 ^ 13 := by decide
 rw [e]; exact p10_mono (by decide)
end Go.Proofs.YtmlpjffnmkndoaaGreatDoor
