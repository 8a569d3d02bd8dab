/- The plain law of weights by chances; lists of ratios and of picks in memory. Conditions: none; plain Lean. -/
import Derived.Test.YtmlpjffnmkndoaaGreatDoorP12
namespace Go.Proofs.YtmlpjffnmkndoaaGreatDoor
open Go.RowKit
set_option linter.unusedVariables false
set_option linter.unusedSimpArgs false
abbrev Rti := ByteArray × ByteArray
abbrev Pck := Int × Rti
def pck0 : Pck := (0, ⟨#[]⟩, ⟨#[]⟩)
def rti0 : Rti := (⟨#[]⟩, ⟨#[]⟩)
theorem SlV.pcksD {φ : Phi} {a : Option Addr} {cap : Nat} {xs : List Pck} (h : SlV φ a cap xs) {k n : Nat} (hn : Hid (xs.length = n)) (hk : k < n) :
    ∃ b off, a = some ⟨b, off, none⟩ ∧ ∀ k, k < n → ∀ w, Fz φ w → w.cell? ⟨b, off + k * 3, none⟩ = some (.int .i64 (xs.getD k pck0).1) ∧ w.cell? ⟨b, off + k * 3 + 1, none⟩ = some (.string (xs.getD k pck0).2.1) ∧ w.cell? ⟨b, off + k * 3 + 2, none⟩ = some (.string (xs.getD k pck0).2.2) := by
  obtain ⟨b, off, ha, hc⟩ := h.cellsD pck0 hn hk
  refine ⟨b, off, ha, fun k hk w hw => ?_⟩
  obtain ⟨cs, hr, hj⟩ := hc k hk
  obtain ⟨c, d, rfl, h1, c2, d2, rfl, h2, h3⟩ := hr
  have h1' : c = [.int .i64 (xs.getD k pck0).1] := h1
  have h2' : c2 = [.string (xs.getD k pck0).2.1] := h2
  have h3' : d2 = [.string (xs.getD k pck0).2.2] := h3
  subst h1'; subst h2'; subst h3'
  have j0 := hj 0 (by simp)
  have j1 := hj 1 (by simp)
  have j2 := hj 2 (by simp)
  simp [Rep.size] at j0 j1 j2
  exact ⟨hw.cell j0, hw.cell j1, hw.cell j2⟩
theorem SlV.rtisD {φ : Phi} {a : Option Addr} {cap : Nat} {xs : List Rti} (h : SlV φ a cap xs) {k n : Nat} (hn : Hid (xs.length = n)) (hk : k < n) :
    ∃ b off, a = some ⟨b, off, none⟩ ∧ ∀ k, k < n → ∀ w, Fz φ w → w.cell? ⟨b, off + k * 2, none⟩ = some (.string (xs.getD k rti0).1) ∧ w.cell? ⟨b, off + k * 2 + 1, none⟩ = some (.string (xs.getD k rti0).2) := by
  obtain ⟨b, off, ha, hc⟩ := h.cellsD rti0 hn hk
  refine ⟨b, off, ha, fun k hk w hw => ?_⟩
  obtain ⟨cs, hr, hj⟩ := hc k hk
  obtain ⟨c, d, rfl, h1, h2⟩ := hr
  have h1' : c = [.string (xs.getD k rti0).1] := h1
  have h2' : d = [.string (xs.getD k rti0).2] := h2
  subst h1'; subst h2'
  have j0 := hj 0 (by simp)
  have j1 := hj 1 (by simp)
  simp [Rep.size] at j0 j1
  exact ⟨hw.cell j0, hw.cell j1⟩
theorem slRti : SliceTy Tryz.prog 24 32 (.agg #[.string ⟨#[]⟩, .string ⟨#[]⟩]) (Rep.size Rti) 32 := ⟨Tryz.underlying24, by kernel_rfl, rfl, by decide, by decide⟩
def qF (x : Rat) : Int := if x ≤ 0 ∨ 1 < x then 1 else 0
noncomputable def basF (p : Pck) : Int := if shoF p.2.1 p.2.2 ≠ 0 then shoF p.2.1 p.2.2 else qF (ratX p.2.1 p.2.2)
def basT (p : Pck) : Rti := ((ratR (1 / ratX p.2.1 p.2.2)).1, (ratR (1 / ratX p.2.1 p.2.2)).2.1)
/-- The weights of units by their chances. -/
noncomputable def basesR (l : List Pck) : List Rti × Int :=
  if 3000 < l.length then ([], 2) else if scan (fun i => basF (l.getD i pck0)) l.length ≠ 0 then ([], scan (fun i => basF (l.getD i pck0)) l.length) else (l.map basT, 0)
theorem p10_lt {j k : Nat} (h : j < 9 * k) : p10 j < lb ^ k := by
  unfold p10
  rw [lb_ten, ← Nat.pow_mul]
  exact Nat.pow_lt_pow_right (by decide) h
theorem lenB_p {j k : Nat} (h : j < 9 * k) (hk : k ≤ 1000000000) : LenB (p10 j) := Nat.le_trans (limbs_le (p10_lt h)) hk
theorem lenB_p10 : LenB (p10 2000) := lenB_p (k := 1000) (by decide) (by decide)
theorem shoF_ok {n d : ByteArray} (h : shoF n d = 0) : ratF n d = 0 ∧ (bodyB n).size ≤ 12 ∧ d.size ≤ 12 := by
  unfold shoF at h
  split at h
  · next hne => exact absurd h hne
  · next hne =>
    split at h
    · exact absurd h (by decide)
    · next h2 => exact ⟨by simpa using hne, by omega, by omega⟩
/-- A short ratio's numbers. -/
theorem sho_lt {n d : ByteArray} (h : shoF n d = 0) : dV (bodyB n).data.toList ≤ 1000000000000 ∧ dV d.data.toList ≤ 1000000000000 := by
  obtain ⟨h1, h2, h3⟩ := shoF_ok h
  have hok := ratF_ok h1
  have e : (1000000000000 : Nat) = 10 ^ 12 := by decide
  rw [e]
  exact ⟨Nat.le_trans (Nat.le_of_lt hok.num_lt) (Nat.pow_le_pow_right (by decide) h2), Nat.le_trans (Nat.le_of_lt hok.den_lt) (Nat.pow_le_pow_right (by decide) h3)⟩
theorem p10_13 : 10000000000000 ≤ p10 2000 := by
  have e : (10000000000000 : Nat) = 10 ^ 13 := by decide
  rw [e]; exact p10_mono (by decide)
end Go.Proofs.YtmlpjffnmkndoaaGreatDoor
