/- Words of exact numbers, for both sides: bounds of limbs, a result's cell, fractions in lowest terms. Conditions: none; plain Lean. -/
import Derived.Test.YtafcecgcmaoakaaDoorA2
namespace Go.Proofs.YtafcecgcmaoakaaDoor
open Go.RowKit
set_option linter.unusedVariables false
/-- A bound of numbers whose limbs can be counted. -/
def LenB (M : Nat) : Prop := (limbs M).length ≤ 1000000000
theorem LenB.len {M n : Nat} (h : LenB M) (hn : n ≤ M) : (limbs n).length ≤ 1000000000 := Nat.le_trans (limbs_mono hn) h
theorem limbs_one {n : Nat} (h0 : 0 < n) (h1 : n < lb) : limbs n = [n] := by
  rw [limbs_pos (by omega), Nat.mod_eq_of_lt h1, Nat.div_eq_of_lt h1, limbs_zero]
theorem len_le1 {n : Nat} (h : n ≤ 999999999) : (limbs n).length ≤ 1 := limbs_le (by rw [Nat.pow_one]; show n < 1000000000; omega)
/-- A result's cell, while a call is under way. -/
structure RsSt (w0 : World) (φ0 φ : Phi) (b : Nat) (cs : Array Value) (T : TypeId) (wr : World) : Prop where
  inv : Inv w0.heap.size w0 φ0 φ wr
  k : Blk wr b cs T
  f : φ b = none
  l : w0.heap.size ≤ b
section
variable {w0 wr w' : World} {φ0 φ φ' : Phi} {b : Nat} {cs : Array Value} {T : TypeId}
theorem RsSt.start (hi : Inv w0.heap.size w0 φ0 φ wr) (cs : Array Value) (T : TypeId) : RsSt w0 φ0 φ wr.heap.size cs T (wr.alloc (.cells cs T)) := ⟨hi.alloc _, Blk.new _ _ _, hi.fz.new_none (Nat.le_refl _), hi.size⟩
theorem RsSt.call (h : RsSt w0 φ0 φ b cs T wr) (hi : Inv wr.heap.size wr φ φ' w') : RsSt w0 φ0 φ' b cs T w' := ⟨h.inv.call hi, h.k.callB hi.bel, (hi.new _ h.k.lt).trans h.f, h.l⟩
theorem RsSt.callB (h : RsSt w0 φ0 φ b cs T wr) (hb : Below wr.heap.size wr w') : RsSt w0 φ0 φ b cs T w' := ⟨h.inv.callB hb, h.k.callB hb, h.f, h.l⟩
theorem RsSt.drewN (h : RsSt w0 φ0 φ b cs T wr) (n : Nat) : RsSt w0 φ0 φ b cs T (wr.drewN n) := ⟨h.inv.drewN n, h.k, h.f, h.l⟩
end
theorem RsSt.set {w0 wr : World} {φ0 φ : Phi} {b : Nat} {cs : Array Value} {T : TypeId} (h : RsSt w0 φ0 φ b cs T wr) (j : Nat) (u : Value) : RsSt w0 φ0 φ b (cs.setIfInBounds j u) T (wr.setCell ⟨b, j, none⟩ u) := ⟨h.inv.setCell h.l h.f u, h.k.set j u, h.f, h.l⟩
theorem RsSt.oth {w0 wr : World} {φ0 φ : Phi} {b g : Nat} {cs ds : Array Value} {T E : TypeId} (h : RsSt w0 φ0 φ b cs T wr) (k : RsSt w0 φ0 φ g ds E wr) (hne : g ≠ b) (j : Nat) (u : Value) : RsSt w0 φ0 φ b cs T (wr.setCell ⟨g, j, none⟩ u) := ⟨h.inv.setCell k.l k.f u, h.k.other hne u, h.f, h.l⟩
theorem alloc_sz (w : World) (o : Obj) : (w.alloc o).heap.size = w.heap.size + 1 := by simp
/-- A frozen box's cells. -/
theorem box_cell {φ φ' : Phi} {W : World} {b : Nat} {cs : Array Value} {T : TypeId} (hb : φ b = some (.cells cs T)) (hl : φ.le φ') (hf : Fz φ' W) (j : Nat) : W.cell? ⟨b, j, none⟩ = cs[j]? := (hf.blk (hl _ _ hb)).cell j
/-- The facts of a result's cell at a world. -/
theorem RsSt.facts {w0 : World} {φ0 φ : Phi} {b : Nat} {T : TypeId} {wr : World} (h : RsSt w0 φ0 φ b #[.bool false, .slice none 0 0, .slice none 0 0] T wr) :
    wr.cell? ⟨b, 0, none⟩ = some (.bool false) ∧ wr.cell? ⟨b, 1, none⟩ = some (.slice none 0 0) ∧ wr.cell? ⟨b, 2, none⟩ = some (.slice none 0 0) ∧ wr.frozen? ⟨b, 0, none⟩ = false ∧ wr.frozen? ⟨b, 1, none⟩ = false ∧ wr.frozen? ⟨b, 2, none⟩ = false :=
  ⟨h.k.cell 0, h.k.cell 1, h.k.cell 2, h.k.frz 0, h.k.frz 1, h.k.frz 2⟩
theorem gcd_dle {m n : Nat} (h : 0 < n) : 0 < Nat.gcd m n := Nat.pos_of_ne_zero (fun e => by have := Nat.eq_zero_of_gcd_eq_zero_right e; omega)
theorem sgn_and (neg : Bool) (m : Nat) : sgn (neg && decide (m ≠ 0)) m = sgn neg m := by
  cases neg
  · rfl
  · by_cases h : m = 0
    · subst h; rfl
    · simp [sgn, h]
theorem sgn_mul (neg : Bool) (g m : Nat) : (g : Int) * sgn neg m = sgn neg (g * m) := by
  cases neg <;> simp [sgn, Int.mul_neg]
theorem rat_lowest {neg : Bool} {n d g : Nat} (hg : 0 < g) (h1 : g ∣ n) (h2 : g ∣ d) : rat (neg && decide (n / g ≠ 0)) (n / g) (d / g) = rat neg n d := by
  unfold rat
  rw [sgn_and]
  conv => rhs; rw [← Nat.mul_div_cancel' h1, ← Nat.mul_div_cancel' h2, ← sgn_mul]
  rw [Rat.mkRat_mul_left (by omega)]
theorem rat_one (neg : Bool) (n : Nat) : rat neg n 1 = (sgn neg n : Int) := by
  apply Rat.ext
  · simp [rat, Rat.num_mkRat]
  · simp [rat, Rat.den_mkRat]
theorem rat_zero_iff {x : Rat} {neg : Bool} {n d : Nat} (hd : 0 < d) (hx : rat neg n d = x) : x = 0 ↔ n = 0 := by
  rw [← hx, rat, Rat.mkRat_eq_zero (by omega)]
  cases neg <;> simp [sgn]
end Go.Proofs.YtafcecgcmaoakaaDoor
