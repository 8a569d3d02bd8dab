/- The plain law of rotations: the groups of a wave. Conditions: none; plain Lean. -/
import Derived.Test.YtafcecgcmaoakaaDoorA1
namespace Go.Proofs.YtafcecgcmaoakaaDoor
open Go.RowKit
set_option linter.unusedVariables false
/-- A rotation: waves in, out, in again. -/
abbrev Rot := Int × Int × Int
/-- Whether a group is in a wave. -/
def inW (r : Rot) (g wave : Int) : Bool :=
  (decide (g ≤ wave) && decide (wave ≤ g + r.1 - 1)) || (decide (g + r.1 + r.2.1 ≤ wave) && decide (wave ≤ g + r.1 + r.2.1 + r.2.2 - 1))
/-- The groups up to k that are in a wave. -/
def grpK (r : Rot) (wave : Int) : Nat → List Int
  | 0 => []
  | k + 1 => if inW r ((k : Int) + 1) wave then grpK r wave k ++ [(k : Int) + 1] else grpK r wave k
theorem grpK_len (r : Rot) (wave : Int) : ∀ k, (grpK r wave k).length ≤ k
  | 0 => Nat.le_refl _
  | k + 1 => by
    have := grpK_len r wave k
    unfold grpK
    split
    · rw [List.length_append, List.length_singleton]; omega
    · omega
theorem grpK_none (r : Rot) (wave : Int) : ∀ k : Nat, (∀ i : Int, 1 ≤ i → i ≤ (k : Int) → inW r i wave = false) → grpK r wave k = []
  | 0, _ => rfl
  | k + 1, h => by
    unfold grpK
    rw [h _ (by omega) (by omega), if_neg (by simp)]
    exact grpK_none r wave k (fun i h1 h2 => h i h1 (by omega))
theorem grpK_mem (r : Rot) (wave : Int) (g : Int) : ∀ k : Nat, g ∈ grpK r wave k ↔ (1 ≤ g ∧ g ≤ k ∧ inW r g wave = true)
  | 0 => by simp [grpK]; intro h1 h2; omega
  | k + 1 => by
    unfold grpK
    have ih := grpK_mem r wave g k
    split
    · next hw =>
      rw [List.mem_append, ih, List.mem_singleton]
      constructor
      · rintro (⟨h1, h2, h3⟩ | rfl)
        · exact ⟨h1, by omega, h3⟩
        · exact ⟨by omega, by omega, hw⟩
      · rintro ⟨h1, h2, h3⟩
        by_cases e : g = (k : Int) + 1
        · exact .inr e
        · exact .inl ⟨h1, by omega, h3⟩
    · next hw =>
      rw [ih]
      constructor
      · rintro ⟨h1, h2, h3⟩; exact ⟨h1, by omega, h3⟩
      · rintro ⟨h1, h2, h3⟩
        have : g ≠ (k : Int) + 1 := by intro e; subst e; exact hw h3
        exact ⟨h1, by omega, h3⟩
/-- A rotation within its bounds. -/
def RotOk (r : Rot) : Prop := 1 ≤ r.1 ∧ r.1 ≤ 1000 ∧ 0 ≤ r.2.1 ∧ r.2.1 ≤ 1000 ∧ 0 ≤ r.2.2 ∧ r.2.2 ≤ 1000
/-- The error of a rotation. -/
def rotF (r : Rot) : Int :=
  if outB r.1 1 1000 || outB r.2.1 0 1000 || outB r.2.2 0 1000 then 1 else if r.2.2 = 0 ∧ r.2.1 ≠ 0 then 3 else 0
theorem inW_age {r : Rot} (h : RotOk r) {g wave : Int} (h1 : g ≤ wave) (h2 : wave - r.1 - r.2.1 - r.2.2 + 1 ≤ g) : inW r g wave = (decide (wave - g < r.1) || decide (wave - g ≥ r.1 + r.2.1)) := by
  obtain ⟨a1, a2, b1, b2, c1, c2⟩ := h
  rw [Bool.eq_iff_iff]
  simp only [inW, Bool.or_eq_true, Bool.and_eq_true, decide_eq_true_eq]
  omega
theorem inW_low {r : Rot} (h : RotOk r) {g wave : Int} (h1 : g ≤ wave) (h2 : g < wave - r.1 - r.2.1 - r.2.2 + 1) : inW r g wave = false := by
  obtain ⟨a1, a2, b1, b2, c1, c2⟩ := h
  rw [Bool.eq_false_iff]
  intro e
  simp only [inW, Bool.or_eq_true, Bool.and_eq_true, decide_eq_true_eq] at e
  omega
/-- How many of the first k of a list are in a later wave. -/
def cntW (r : Rot) (later : Int) (xs : List Int) : Nat → Nat
  | 0 => 0
  | k + 1 => cntW r later xs k + (if inW r (xs.getD k 0) later then 1 else 0)
theorem cntW_le (r : Rot) (later : Int) (xs : List Int) : ∀ k, cntW r later xs k ≤ k
  | 0 => Nat.le_refl _
  | k + 1 => by
    have := cntW_le r later xs k
    unfold cntW
    split <;> omega
/-- A group of the first wave is among those of the later one just if it is in it. -/
theorem mem_later {r : Rot} {wave later : Int} {W L : Nat} (hW : (W : Int) = wave) (hL : (L : Int) = later) (h : wave ≤ later) {g : Int} (hg : g ∈ grpK r wave W) : g ∈ grpK r later L ↔ inW r g later = true := by
  rw [grpK_mem] at hg ⊢
  constructor
  · rintro ⟨_, _, h3⟩; exact h3
  · intro h3; exact ⟨hg.1, by omega, h3⟩
end Go.Proofs.YtafcecgcmaoakaaDoor
