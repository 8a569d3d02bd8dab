/- The plain law of weights by chances; lists of ratios and of picks in memory. The plain law of lists of ratios. The plain law of ratios' texts: what Ratio writes is a ratio, and reads as the number. Conditions: none beyond what the claim form gives. -/
import Derived.Test.YtnlhalnjbkpdnaaGreatDoorPD
import Derived.Test.YtnlhalnjbkpdnaaGreatDoorPC
namespace Go.Proofs.YtnlhalnjbkpdnaaGreatDoor
open Go.RowKit
set_option linter.unusedVariables false
set_option linter.unusedSimpArgs false
abbrev Rti := ByteArray × ByteArray
def rti0 : Rti := (⟨#[]⟩, ⟨#[]⟩)
theorem SlV.rtisD {φ : Phi} {a : Option Addr} {cap : Nat} {xs : List Rti} (h : SlV φ a cap xs) {k n : Nat} (hn : Hid (xs.length = n)) (hk : k < n) :
    ∃ b off, a = some ⟨b, off, none⟩ ∧ ∀ k, k < n → ∀ w, Fz φ w → w.cell? ⟨b, off + k * 2, none⟩ = some (.string (xs.getD k rti0).1) ∧ w.cell? ⟨b, off + k * 2 + 1, none⟩ = some (.string (xs.getD k rti0).2) := by
  obtain ⟨b, off, ha, hc⟩ := h.cellsD rti0 hn hk
  refine ⟨b, off, ha, fun k hk w hw => ?_⟩
  obtain ⟨cs, hr, hj⟩ := hc k hk
  obtain ⟨c, d, rfl, h1, h2⟩ := hr
  have h1' : c = [.string (xs.getD k rti0).1] := h1
  have h2' : d = [.string (xs.getD k rti0).2] := h2
  subst h1'; subst h2'
  have j0 := hj 0 (by simp)
  have j1 := hj 1 (by simp)
  simp [Rep.size] at j0 j1
  exact ⟨hw.cell j0, hw.cell j1⟩
theorem slRti : SliceTy Tryz.prog 26 33 (.agg #[.string ⟨#[]⟩, .string ⟨#[]⟩]) (Rep.size Rti) 32 := ⟨Tryz.underlying26, by kernel_rfl, rfl, by decide, by decide⟩
theorem p10_lt {j k : Nat} (h : j < 9 * k) : p10 j < lb ^ k := by
  unfold p10
  rw [lb_ten, ← Nat.pow_mul]
  exact Nat.pow_lt_pow_right (by decide) h
theorem lenB_p {j k : Nat} (h : j < 9 * k) (hk : k ≤ 1000000000) : LenB (p10 j) := Nat.le_trans (limbs_le (p10_lt h)) hk
end Go.Proofs.YtnlhalnjbkpdnaaGreatDoor

namespace Go.Proofs.YtnlhalnjbkpdnaaGreatDoor
open Go.RowKit
set_option linter.unusedVariables false
set_option linter.unusedSimpArgs false
noncomputable def shtT (x : Rat) : Rti := ((ratR x).1, (ratR x).2.1)
end Go.Proofs.YtnlhalnjbkpdnaaGreatDoor

namespace Go.Proofs.YtnlhalnjbkpdnaaGreatDoor
open Go.RowKit
set_option linter.unusedVariables false
set_option linter.unusedSimpArgs false
theorem dg_D {u : Nat} (h : u < 10) : isD (dg u) ∧ (dg u).toNat - 48 = u := by
  have : u = 0 ∨ u = 1 ∨ u = 2 ∨ u = 3 ∨ u = 4 ∨ u = 5 ∨ u = 6 ∨ u = 7 ∨ u = 8 ∨ u = 9 := by omega
  rcases this with rfl | rfl | rfl | rfl | rfl | rfl | rfl | rfl | rfl | rfl <;> exact ⟨⟨by decide, by decide⟩, by decide⟩
theorem dec_D (u : Nat) : ∀ c ∈ Lib.decDigits u, isD c := by
  induction u using Nat.strongRecOn with
  | ind u ih =>
    intro c hc
    by_cases h : u < 10
    · rw [dec_lt h] at hc
      simp at hc
      rw [hc]; exact (dg_D h).1
    · rw [dec_ge h] at hc
      rcases List.mem_append.1 hc with hc | hc
      · exact ih (u / 10) (by omega) c hc
      · simp at hc
        rw [hc]; exact (dg_D (Nat.mod_lt _ (by decide))).1
theorem dec_V (u : Nat) : dV (Lib.decDigits u) = u := by
  induction u using Nat.strongRecOn with
  | ind u ih =>
    by_cases h : u < 10
    · rw [dec_lt h, ← List.nil_append [dg u], dV_snoc, dV_nil, (dg_D h).2]; omega
    · rw [dec_ge h, dV_snoc, ih (u / 10) (by omega), (dg_D (Nat.mod_lt _ (by decide))).2]; omega
theorem dec_h0 (u : Nat) (h0 : u ≠ 0) : (Lib.decDigits u).getD 0 0 ≠ 48 := by
  induction u using Nat.strongRecOn with
  | ind u ih =>
    by_cases h : u < 10
    · rw [dec_lt h]
      have := dg_ne h0 h
      simpa using this
    · rw [dec_ge h]
      have h1 := ih (u / 10) (by omega) (by omega)
      have h2 := dec_ne (u / 10)
      cases hd : Lib.decDigits (u / 10) with
      | nil => exact absurd hd h2
      | cons c cs => rw [hd] at h1; simpa using h1
theorem decB_list (u : Nat) : (decB u).data.toList = Lib.decDigits u := by unfold decB; simp
theorem numP_dec (u : Nat) : numP (decB u) := by
  refine ⟨?_, ?_, ?_⟩
  · intro e
    have h := dec_ne u
    have : (decB u).data.toList.length = 0 := by rw [Array.length_toList]; exact e
    rw [decB_list] at this
    exact h (List.eq_nil_of_length_eq_zero this)
  · intro c hc
    rw [decB_list] at hc
    exact dec_D u c hc
  · rw [decB_list]
    by_cases h : u = 0
    · right; subst h; rw [dec_lt (by decide)]; rfl
    · left; exact dec_h0 u h
theorem dec_pre (u : Nat) : Lib.hasPrefix (Lib.decDigits u) [45] = false := by
  have h := dec_D u
  cases hd : Lib.decDigits u with
  | nil => rfl
  | cons c cs =>
    have hc := h c (by rw [hd]; simp)
    have : (45 == c) = false := by
      rw [beq_eq_false_iff_ne]
      intro e
      rw [← e] at hc
      exact absurd hc.1 (by decide)
    unfold Lib.hasPrefix
    simp [List.isPrefixOf, this]
theorem negB_dec (u : Nat) : negB (decB u) = false := by unfold negB; rw [decB_list, dec_pre]
theorem bodyB_dec (u : Nat) : bodyB (decB u) = decB u := by unfold bodyB Lib.trimPrefix; rw [decB_list, dec_pre, if_neg (by simp)]; rfl
theorem min_list (u : Nat) : ((⟨#[45]⟩ : ByteArray) ++ decB u).data.toList = 45 :: Lib.decDigits u := by
  rw [ByteArray.data_append]
  simp [decB_list]
theorem negB_min (u : Nat) : negB (⟨#[45]⟩ ++ decB u) = true := by unfold negB; rw [min_list]; unfold Lib.hasPrefix; simp [List.isPrefixOf]
theorem bodyB_min (u : Nat) : bodyB (⟨#[45]⟩ ++ decB u) = decB u := by
  have h : Lib.hasPrefix (45 :: Lib.decDigits u) [45] = true := by unfold Lib.hasPrefix; simp [List.isPrefixOf]
  unfold bodyB Lib.trimPrefix
  rw [min_list, if_pos h]; rfl
theorem ratR_back {x : Rat} {S T : ByteArray} (h : ratR x = (S, T, 0)) : ratF S T = 0 ∧ ratX S T = x := by
  unfold ratR at h
  split at h
  · injection h with h1 h2; injection h2 with h2 h3; exact absurd h3 (by decide)
  · next hs =>
    injection h with h1 h2
    injection h2 with h2 h3
    have hd0 : Lib.decDigits x.den ≠ [48] := by
      intro e
      have := dec_V x.den
      rw [e] at this
      have h4 : dV [48] = 0 := by decide
      rw [h4] at this
      exact x.den_nz this.symm
    have hg : Nat.gcd x.num.natAbs x.den = 1 := x.reduced
    by_cases hn : x.num < 0
    · rw [if_pos hn] at h1
      subst h1 h2
      have hn0 : Lib.decDigits x.num.natAbs ≠ [48] := by
        intro e
        have := dec_V x.num.natAbs
        rw [e] at this
        have h4 : dV [48] = 0 := by decide
        rw [h4] at this
        omega
      refine ⟨ratF_zero ?_ ⟨?_, numP_dec _, ?_, ?_⟩ ?_, ?_⟩
      · rw [bodyB_min]; omega
      · rw [bodyB_min]; exact numP_dec _
      · rw [decB_list]; exact hd0
      · rw [bodyB_min, decB_list]; exact fun e => hn0 e.2
      · rw [bodyB_min, decB_list, decB_list, dec_V, dec_V]; exact hg
      · unfold ratX
        rw [negB_min, bodyB_min, decB_list, decB_list, dec_V, dec_V]
        unfold rat sgn
        rw [if_pos rfl, show -((x.num.natAbs : Int)) = x.num by omega, Rat.mkRat_self]
    · rw [if_neg hn] at h1
      subst h1 h2
      refine ⟨ratF_zero ?_ ⟨?_, numP_dec _, ?_, ?_⟩ ?_, ?_⟩
      · rw [bodyB_dec]; omega
      · rw [bodyB_dec]; exact numP_dec _
      · rw [decB_list]; exact hd0
      · rw [negB_dec]; exact fun e => absurd e.1 (by decide)
      · rw [bodyB_dec, decB_list, decB_list, dec_V, dec_V]; exact hg
      · unfold ratX
        rw [negB_dec, bodyB_dec, decB_list, decB_list, dec_V, dec_V]
        unfold rat sgn
        rw [if_neg (by decide), show ((x.num.natAbs : Int)) = x.num by omega, Rat.mkRat_self]
end Go.Proofs.YtnlhalnjbkpdnaaGreatDoor
