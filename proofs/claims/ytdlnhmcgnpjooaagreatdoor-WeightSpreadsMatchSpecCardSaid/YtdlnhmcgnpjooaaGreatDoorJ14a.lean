/- The plain law of sums of exact numbers. Conditions: none; plain Lean. -/
import Derived.Test.YtdlnhmcgnpjooaaGreatDoorPB
namespace Go.Proofs.YtdlnhmcgnpjooaaGreatDoor
open Go.RowKit
set_option linter.unusedVariables false
def sumQ : List Rat → Rat
  | [] => 0
  | x :: xs => x + sumQ xs
theorem sumQ_append (a b : List Rat) : sumQ (a ++ b) = sumQ a + sumQ b := by
  induction a with
  | nil => show sumQ b = 0 + sumQ b; grind
  | cons x xs ih => show x + sumQ (xs ++ b) = x + sumQ xs + sumQ b; rw [ih]; grind
theorem sumQ_snoc (a : List Rat) (x : Rat) : sumQ (a ++ [x]) = sumQ a + x := by
  rw [sumQ_append]; show sumQ a + (x + 0) = _; grind
theorem sumQ_step {xs : List Rat} {n k : Nat} (hn : xs.length = n) (hk : k < n) : sumQ (xs.take (k + 1)) = sumQ (xs.take k) + xs.getD k 0 := by
  rw [take_snocD 0 xs k n hn hk, sumQ_snoc]
theorem sumB_step {N D k : Nat} (hD : 1 ≤ D) : k * N * D ^ k * D + N * D ^ k ≤ (k + 1) * N * D ^ (k + 1) := by
  have h1 : N * D ^ k ≤ N * D ^ (k + 1) := Nat.mul_le_mul_left _ (Nat.pow_le_pow_right hD (Nat.le_succ k))
  have h2 : k * N * D ^ k * D = k * N * D ^ (k + 1) := by rw [Nat.mul_assoc (k * N), ← Nat.pow_succ]
  have h3 : (k + 1) * N * D ^ (k + 1) = k * N * D ^ (k + 1) + N * D ^ (k + 1) := by rw [Nat.add_mul, Nat.add_mul, Nat.one_mul]
  omega
theorem sumB_mono {N D k n : Nat} (hD : 1 ≤ D) (hk : k ≤ n) : k * N * D ^ k ≤ n * N * D ^ n :=
  Nat.mul_le_mul (Nat.mul_le_mul_right _ hk) (Nat.pow_le_pow_right hD hk)
theorem powB_mono {D k n : Nat} (hD : 1 ≤ D) (hk : k ≤ n) : D ^ k ≤ D ^ n := Nat.pow_le_pow_right hD hk
/-- A box for a sum, and a result's cell. -/
structure SmS (E : TypeId) (w0 : World) (φ0 φ : Phi) (b c : Nat) (cs : Array Value) (W : World) : Prop where
  r : RsSt w0 φ0 φ b #[.bool false, .slice none 0 0, .slice none 0 0] E W
  s : RsSt w0 φ0 φ c cs E W
  ne : c ≠ b
section
variable {E : TypeId} {w0 W w' : World} {φ0 φ φ' : Phi} {b c : Nat} {cs : Array Value}
theorem SmS.call (h : SmS E w0 φ0 φ b c cs W) (hi : Inv W.heap.size W φ φ' w') : SmS E w0 φ0 φ' b c cs w' := ⟨h.r.call hi, h.s.call hi, h.ne⟩
theorem SmS.callB (h : SmS E w0 φ0 φ b c cs W) (hb : Below W.heap.size W w') : SmS E w0 φ0 φ b c cs w' := ⟨h.r.callB hb, h.s.callB hb, h.ne⟩
theorem SmS.set (h : SmS E w0 φ0 φ b c cs W) (j : Nat) (u : Value) : SmS E w0 φ0 φ b c (cs.setIfInBounds j u) (W.setCell ⟨c, j, none⟩ u) := ⟨h.r.oth h.s h.ne j u, h.s.set j u, h.ne⟩
end
end Go.Proofs.YtdlnhmcgnpjooaaGreatDoor
