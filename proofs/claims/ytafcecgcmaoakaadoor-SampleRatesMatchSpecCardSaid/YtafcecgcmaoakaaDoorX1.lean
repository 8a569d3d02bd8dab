/- The plain law of rates of outcomes. Conditions: none; plain Lean. -/
import Derived.Test.YtafcecgcmaoakaaDoorA3
namespace Go.Proofs.YtafcecgcmaoakaaDoor
open Go.RowKit
set_option linter.unusedVariables false
/-- How often each outcome is given, among the first k. -/
def cntO (xs : List Int) : Nat → List Int
  | 0 => List.replicate 8 0
  | k + 1 => (cntO xs k).set (xs.getD k 0).toNat ((cntO xs k).getD (xs.getD k 0).toNat 0 + 1)
theorem cntO_len (xs : List Int) : ∀ k, (cntO xs k).length = 8
  | 0 => rfl
  | k + 1 => by rw [cntO, List.length_set]; exact cntO_len xs k
theorem cntO_bd (xs : List Int) : ∀ (k j : Nat), 0 ≤ (cntO xs k).getD j 0 ∧ (cntO xs k).getD j 0 ≤ (k : Int)
  | 0, j => by
    have : (cntO xs 0).getD j 0 = 0 := by
      rw [cntO, List.getD_eq_getElem?_getD]
      by_cases h : j < 8
      · rw [List.getElem?_replicate, if_pos h]; rfl
      · rw [List.getElem?_replicate, if_neg h]; rfl
    rw [this]; simp
  | k + 1, j => by
    have h1 := cntO_bd xs k j
    have h2 := cntO_bd xs k (xs.getD k 0).toNat
    rw [cntO, List.getD_eq_getElem?_getD, List.getElem?_set]
    split
    · split
      · simp only [Option.getD_some]; omega
      · simp; omega
    · rw [← List.getD_eq_getElem?_getD]; omega
/-- The error of an outcome. -/
def oBad (xs : List Int) (k : Nat) : Int := if outB (xs.getD k 0) 1 7 = true then 4 else 0
/-- The error of a list of outcomes. -/
def ratesF (xs : List Int) : Int := if 5000 < xs.length then 2 else scan (oBad xs) xs.length
/-- A part of a whole. -/
def prt (a b : Int) : Rat := (a : Rat) / (b : Rat)
theorem prt_zero (a : Int) : prt a 0 = 0 := by rw [prt]; simp [Rat.div_def]
theorem zero_prt (b : Int) : prt 0 b = 0 := by rw [prt]; simp [Rat.div_def]
/-- What is known and can be reached, with the part of the unknown ones. -/
theorem estimated {i k u f : Int} (hk : 0 ≤ k) (hf : 0 ≤ f) (hu : 0 ≤ u) : (i : Rat) / ((k : Rat) + prt (k * u) (k + f)) = prt (i * (k + f)) (k * (k + f + u)) := by
  by_cases h0 : k = 0
  · subst h0
    have e : prt (0 * u) (0 + f) = 0 := by rw [Int.zero_mul]; exact zero_prt _
    rw [e, Int.zero_mul, prt_zero, show ((0 : Int) : Rat) + 0 = 0 from (Rat.add_zero _).trans rfl, Rat.div_def, Rat.inv_zero, Rat.mul_zero]
  · have h1 : ((k + f : Int) : Rat) ≠ 0 := by
      intro e
      have : k + f = 0 := by exact_mod_cast e
      omega
    have h2 : ((k : Int) : Rat) ≠ 0 := by
      intro e
      have : k = 0 := by exact_mod_cast e
      omega
    have h3 : ((k + f + u : Int) : Rat) ≠ 0 := by
      intro e
      have : k + f + u = 0 := by exact_mod_cast e
      omega
    unfold prt
    have e1 : ((k * u : Int) : Rat) = (k : Rat) * (u : Rat) := Rat.intCast_mul ..
    have e2 : ((k + f : Int) : Rat) = (k : Rat) + (f : Rat) := Rat.intCast_add ..
    have e3 : ((k + f + u : Int) : Rat) = (k : Rat) + (f : Rat) + (u : Rat) := by rw [Rat.intCast_add, Rat.intCast_add]
    have e4 : ((i * (k + f) : Int) : Rat) = (i : Rat) * ((k : Rat) + (f : Rat)) := by rw [Rat.intCast_mul, Rat.intCast_add]
    have e5 : ((k * (k + f + u) : Int) : Rat) = (k : Rat) * ((k : Rat) + (f : Rat) + (u : Rat)) := by rw [Rat.intCast_mul, e3]
    rw [e2] at h1
    rw [e3] at h3
    rw [e1, e2, e4, e5]
    generalize (k : Rat) = K at *
    generalize (f : Rat) = Fq at *
    generalize (u : Rat) = U at *
    generalize (i : Rat) = I at *
    grind
end Go.Proofs.YtafcecgcmaoakaaDoor
