/- The plain law of decimal texts of numbers and of ratios. The plain law of exact numbers: sums, products and quotients of signed fractions. Words of exact numbers, for both sides: bounds of limbs, a result's cell, fractions in lowest terms. Words for stores into a result's cells. Conditions: none beyond what the claim form gives. -/
import Derived.Test.YtnlhalnjbkpdnaaGreatDoorNA
import Derived.Lib.ItoaNum
import Derived.Lib.TrimByte
namespace Go.Proofs.YtnlhalnjbkpdnaaGreatDoor
open Go.RowKit
set_option linter.unusedVariables false
set_option linter.unusedSimpArgs false
def dg (u : Nat) : UInt8 := UInt8.ofNat (48 + u)
theorem dg_ne {u : Nat} (h0 : u ≠ 0) (h : u < 10) : (dg u == 48) = false := by
  have : u = 1 ∨ u = 2 ∨ u = 3 ∨ u = 4 ∨ u = 5 ∨ u = 6 ∨ u = 7 ∨ u = 8 ∨ u = 9 := by omega
  rcases this with rfl | rfl | rfl | rfl | rfl | rfl | rfl | rfl | rfl <;> decide
theorem dec_lt {u : Nat} (h : u < 10) : Lib.decDigits u = [dg u] := by rw [Lib.decDigits, dif_pos h]; rfl
theorem dec_ge {u : Nat} (h : ¬ u < 10) : Lib.decDigits u = Lib.decDigits (u / 10) ++ [dg (u % 10)] := by rw [Lib.decDigits, dif_neg h]; rfl
/-- The k lowest digits. -/
def padR : Nat → Nat → List UInt8
  | 0, _ => []
  | k + 1, x => padR k (x / 10) ++ [dg (x % 10)]
theorem padR_len : ∀ k x, (padR k x).length = k
  | 0, _ => rfl
  | k + 1, x => by rw [padR, List.length_append, padR_len]; rfl
theorem padR_zero : ∀ k, padR k 0 = List.replicate k 48
  | 0 => rfl
  | k + 1 => by
    rw [padR, show (0 : Nat) / 10 = 0 from rfl, padR_zero k, List.replicate_succ', show dg (0 % 10) = 48 from rfl]
theorem dec_ne (u : Nat) : Lib.decDigits u ≠ [] := by
  by_cases h : u < 10
  · rw [dec_lt h]; simp
  · rw [dec_ge h]; simp
theorem dec_len : ∀ (k u : Nat), u < 10 ^ (k + 1) → (Lib.decDigits u).length ≤ k + 1
  | 0, u, h => by rw [dec_lt (by simpa using h)]; simp
  | k + 1, u, h => by
    by_cases h10 : u < 10
    · rw [dec_lt h10]; simp
    · rw [dec_ge h10, List.length_append, List.length_singleton]
      have := dec_len k (u / 10) (by rw [Nat.pow_succ] at h; omega)
      omega
theorem pad_eq : ∀ (k x : Nat), x < 10 ^ (k + 1) → padR (k + 1) x = List.replicate (k + 1 - (Lib.decDigits x).length) 48 ++ Lib.decDigits x
  | 0, x, h => by
    have h : x < 10 := by simpa using h
    rw [dec_lt h, padR, padR, Nat.mod_eq_of_lt h]; rfl
  | k + 1, x, h => by
    by_cases h10 : x < 10
    · rw [dec_lt h10, padR, Nat.mod_eq_of_lt h10, Nat.div_eq_of_lt h10, padR_zero]; rfl
    · have h2 : x / 10 < 10 ^ (k + 1) := by rw [Nat.pow_succ] at h; omega
      have h3 := dec_len k _ h2
      rw [padR, pad_eq k _ h2, dec_ge h10, List.length_append, List.length_singleton, ← List.append_assoc, show k + 1 + 1 - ((Lib.decDigits (x / 10)).length + 1) = k + 1 - (Lib.decDigits (x / 10)).length by omega]
theorem dec_split : ∀ (k a x : Nat), 0 < a → x < 10 ^ k → Lib.decDigits (a * 10 ^ k + x) = Lib.decDigits a ++ padR k x
  | 0, a, x, _, h => by
    have : x = 0 := by simpa using h
    subst this
    simp [padR]
  | k + 1, a, x, ha, h => by
    have h1 : 10 ≤ a * 10 ^ (k + 1) + x := by
      have : 1 * 10 ^ (k + 1) ≤ a * 10 ^ (k + 1) := Nat.mul_le_mul_right _ ha
      have h3 : 1 * 10 ^ 1 ≤ 10 ^ (k + 1) := by rw [Nat.one_mul]; exact Nat.pow_le_pow_right (by decide) (by omega)
      omega
    have e1 : (a * 10 ^ (k + 1) + x) / 10 = a * 10 ^ k + x / 10 := by
      rw [Nat.pow_succ, ← Nat.mul_assoc]; omega
    have e2 : (a * 10 ^ (k + 1) + x) % 10 = x % 10 := by
      rw [Nat.pow_succ, ← Nat.mul_assoc]; omega
    have h2 : x / 10 < 10 ^ k := by rw [Nat.pow_succ] at h; omega
    rw [dec_ge (by omega), e1, e2, dec_split k a (x / 10) ha h2, padR, List.append_assoc]
/-- Limbs written out, nine digits each. -/
def cat9 : List Nat → List UInt8
  | [] => []
  | x :: xs => cat9 xs ++ padR 9 x
theorem cat9_len : ∀ xs, (cat9 xs).length = 9 * xs.length
  | [] => rfl
  | x :: xs => by rw [cat9, List.length_append, cat9_len xs, padR_len, List.length_cons]; omega
theorem cat9_drop (xs : List Nat) (k : Nat) (h : k < xs.length) : cat9 (xs.drop k) = cat9 (xs.drop (k + 1)) ++ padR 9 (xs.getD k 0) := by
  rw [List.drop_eq_getElem_cons h, cat9, List.getD_eq_getElem?_getD, List.getElem?_eq_getElem h]; rfl
theorem dec_head : ∀ (u : Nat), u ≠ 0 → (Lib.decDigits u).dropWhile (· == 48) = Lib.decDigits u := by
  intro u
  induction u using Nat.strongRecOn with
  | _ u ih =>
    intro h0
    by_cases h : u < 10
    · rw [dec_lt h, List.dropWhile_cons, if_neg (by rw [dg_ne h0 h]; simp)]
    · have h1 := ih (u / 10) (by omega) (by omega)
      rw [dec_ge h]
      cases hc : Lib.decDigits (u / 10) with
      | nil => exact absurd hc (dec_ne _)
      | cons y ys =>
        rw [hc, List.dropWhile_cons] at h1
        split at h1
        · have h5 := congrArg List.length h1
          have h6 := (List.dropWhile_sublist (fun c : UInt8 => c == 48) (l := ys)).length_le
          simp at h5; omega
        · next hne => rw [List.cons_append, List.dropWhile_cons, if_neg hne]
theorem drop_zeros (k : Nat) (l : List UInt8) : (List.replicate k 48 ++ l).dropWhile (· == 48) = l.dropWhile (· == 48) := by
  induction k with
  | zero => rfl
  | succ k ih => rw [List.replicate_succ, List.cons_append, List.dropWhile_cons, if_pos (by decide), ih]
theorem lb_ten : lb = 10 ^ 9 := by decide
theorem dec_lb {a x : Nat} (ha : 0 < a) (hx : x < lb) : Lib.decDigits (x + lb * a) = Lib.decDigits a ++ padR 9 x := by
  rw [Nat.add_comm, Nat.mul_comm, lb_ten, dec_split 9 a x ha (by rw [← lb_ten]; exact hx)]
/-- Without leading zeros it is the number's text. -/
theorem cat9_trim : ∀ {m : Nat}, m ≠ 0 → (cat9 (limbs m)).dropWhile (· == 48) = Lib.decDigits m := by
  intro m
  induction m using Nat.strongRecOn with
  | _ m ih =>
    intro h0
    rw [limbs_pos h0, cat9]
    by_cases h1 : m / lb = 0
    · have h2 : m % lb = m := by have := Nat.mod_add_div m lb; rw [h1] at this; omega
      have h3 : m < 10 ^ (8 + 1) := by rw [show (8 + 1) = 9 from rfl, ← lb_ten, ← h2]; exact Nat.mod_lt _ lb_pos
      rw [h1, limbs_zero, cat9, List.nil_append, h2, pad_eq 8 m h3, drop_zeros, dec_head m h0]
    · have h2 := ih _ (Nat.div_lt_self (by omega) lb_gt) h1
      have e : m = m % lb + lb * (m / lb) := (Nat.mod_add_div m lb).symm
      have h4 : Lib.decDigits m = Lib.decDigits (m / lb) ++ padR 9 (m % lb) := by
        conv => lhs; rw [e]
        exact dec_lb (Nat.pos_of_ne_zero h1) (Nat.mod_lt _ lb_pos)
      rw [h4, ← h2]
      have h5 : (cat9 (limbs (m / lb))).dropWhile (· == 48) ≠ [] := by rw [h2]; exact dec_ne _
      rw [List.dropWhile_append, if_neg (by simpa using h5)]
/-- A number's text. -/
def decB (n : Nat) : ByteArray := ⟨(Lib.decDigits n).toArray⟩
/-- A ratio's texts, and the error of one with too many digits. -/
def ratR (x : Rat) : ByteArray × ByteArray × Int :=
  if (decB x.num.natAbs).size > 2000 ∨ (decB x.den).size > 2000 then (⟨#[]⟩, ⟨#[]⟩, 2)
  else (if x.num < 0 then ⟨#[45]⟩ ++ decB x.num.natAbs else decB x.num.natAbs, decB x.den, 0)
/-- A sign, a numerator and a denominator. -/
def sgn (neg : Bool) (n : Nat) : Int := if neg then -(n : Int) else n
theorem sgn_abs (neg : Bool) (n : Nat) : (sgn neg n).natAbs = n := by cases neg <;> simp [sgn]
def rat (neg : Bool) (n d : Nat) : Rat := mkRat (sgn neg n) d
theorem rat_den {neg : Bool} {n d : Nat} (hd : d ≠ 0) : (rat neg n d).den = d / n.gcd d := by
  rw [rat, Rat.den_mkRat, if_neg hd, sgn_abs, Nat.gcd_comm]
theorem rat_num {neg : Bool} {n d : Nat} (hd : d ≠ 0) : (rat neg n d).num = sgn neg (n / n.gcd d) := by
  rw [rat, Rat.num_mkRat, if_neg hd, sgn_abs, Nat.gcd_comm]
  cases neg
  · simp [sgn]
  · simp only [sgn, if_true]
    rw [Int.neg_ediv_of_dvd (Int.natCast_dvd_natCast.2 (Nat.gcd_dvd_left n d))]
    simp
theorem rat_numAbs {neg : Bool} {n d : Nat} (hd : d ≠ 0) : (rat neg n d).num.natAbs = n / n.gcd d := by rw [rat_num hd, sgn_abs]
theorem rat_neg {neg : Bool} {n d : Nat} (hd : d ≠ 0) : (rat neg n d).num < 0 ↔ (neg = true ∧ n / n.gcd d ≠ 0) := by
  rw [rat_num hd]
  generalize n / n.gcd d = q
  cases neg
  · simp [sgn]
  · simp only [sgn, if_true, true_and]; omega
end Go.Proofs.YtnlhalnjbkpdnaaGreatDoor

namespace Go.Proofs.YtnlhalnjbkpdnaaGreatDoor
set_option linter.unusedVariables false
set_option linter.unusedSimpArgs false
theorem rat_div (neg : Bool) (n d : Nat) : rat neg n d = Rat.divInt (sgn neg n) (d : Int) := (Rat.divInt_ofNat _ _).symm
theorem sgn_ne {neg : Bool} {n : Nat} (h : 0 < n) : sgn neg n ≠ 0 := by cases neg <;> simp [sgn] <;> omega
theorem rat_over {s1 s2 : Bool} {n1 d1 n2 d2 : Nat} (h1 : 0 < d1) (h2 : 0 < d2) (h3 : 0 < n2) : rat (s1 != s2) (n1 * d2) (d1 * n2) = rat s1 n1 d1 / rat s2 n2 d2 := by
  rw [Rat.div_def, rat_div, rat_div, rat_div, Rat.inv_divInt, Rat.divInt_mul_divInt, Rat.divInt_eq_divInt_iff]
  · cases s1 <;> cases s2 <;> simp [sgn] <;> grind
  · have : 0 < d1 * n2 := Nat.mul_pos h1 h3
    omega
  · have := sgn_ne (neg := s2) h3
    exact Int.mul_ne_zero (by omega) this
theorem rat_times {s1 s2 : Bool} {n1 d1 n2 d2 : Nat} (h1 : 0 < d1) (h2 : 0 < d2) : rat (s1 != s2) (n1 * n2) (d1 * d2) = rat s1 n1 d1 * rat s2 n2 d2 := by
  rw [rat_div, rat_div, rat_div, Rat.divInt_mul_divInt]
  congr 1
  cases s1 <;> cases s2 <;> simp [sgn] <;> grind
end Go.Proofs.YtnlhalnjbkpdnaaGreatDoor

namespace Go.Proofs.YtnlhalnjbkpdnaaGreatDoor
open Go.RowKit
set_option linter.unusedVariables false
set_option linter.unusedSimpArgs false
/-- A bound of numbers whose limbs can be counted. -/
def LenB (M : Nat) : Prop := (limbs M).length ≤ 1000000000
theorem LenB.len {M n : Nat} (h : LenB M) (hn : n ≤ M) : (limbs n).length ≤ 1000000000 := Nat.le_trans (limbs_mono hn) h
theorem limbs_one {n : Nat} (h0 : 0 < n) (h1 : n < lb) : limbs n = [n] := by
  rw [limbs_pos (by omega), Nat.mod_eq_of_lt h1, Nat.div_eq_of_lt h1, limbs_zero]
/-- A result's cell, while a call is under way. -/
structure RsSt (w0 : World) (φ0 φ : Phi) (b : Nat) (cs : Array Value) (T : TypeId) (wr : World) : Prop where
  inv : Inv w0.heap.size w0 φ0 φ wr
  k : Blk wr b cs T
  f : φ b = none
  l : w0.heap.size ≤ b
section
variable {w0 wr w' : World} {φ0 φ φ' : Phi} {b : Nat} {cs : Array Value} {T : TypeId}
theorem RsSt.start (hi : Inv w0.heap.size w0 φ0 φ wr) (cs : Array Value) (T : TypeId) : RsSt w0 φ0 φ wr.heap.size cs T (wr.alloc (.cells cs T)) := ⟨hi.alloc _, Blk.new _ _ _, hi.fz.new_none (Nat.le_refl _), hi.size⟩
theorem RsSt.call (h : RsSt w0 φ0 φ b cs T wr) (hi : Inv wr.heap.size wr φ φ' w') : RsSt w0 φ0 φ' b cs T w' := ⟨h.inv.call hi, h.k.callB hi.bel, (hi.new _ h.k.lt).trans h.f, h.l⟩
theorem RsSt.callB (h : RsSt w0 φ0 φ b cs T wr) (hb : Below wr.heap.size wr w') : RsSt w0 φ0 φ b cs T w' := ⟨h.inv.callB hb, h.k.callB hb, h.f, h.l⟩
theorem RsSt.drewN (h : RsSt w0 φ0 φ b cs T wr) (n : Nat) : RsSt w0 φ0 φ b cs T (wr.drewN n) := ⟨h.inv.drewN n, h.k, h.f, h.l⟩
end
theorem RsSt.set {w0 wr : World} {φ0 φ : Phi} {b : Nat} {cs : Array Value} {T : TypeId} (h : RsSt w0 φ0 φ b cs T wr) (j : Nat) (u : Value) : RsSt w0 φ0 φ b (cs.setIfInBounds j u) T (wr.setCell ⟨b, j, none⟩ u) := ⟨h.inv.setCell h.l h.f u, h.k.set j u, h.f, h.l⟩
theorem RsSt.oth {w0 wr : World} {φ0 φ : Phi} {b g : Nat} {cs ds : Array Value} {T E : TypeId} (h : RsSt w0 φ0 φ b cs T wr) (k : RsSt w0 φ0 φ g ds E wr) (hne : g ≠ b) (j : Nat) (u : Value) : RsSt w0 φ0 φ b cs T (wr.setCell ⟨g, j, none⟩ u) := ⟨h.inv.setCell k.l k.f u, h.k.other hne u, h.f, h.l⟩
theorem alloc_sz (w : World) (o : Obj) : (w.alloc o).heap.size = w.heap.size + 1 := by simp
/-- A frozen box's cells. -/
theorem box_cell {φ φ' : Phi} {W : World} {b : Nat} {cs : Array Value} {T : TypeId} (hb : φ b = some (.cells cs T)) (hl : φ.le φ') (hf : Fz φ' W) (j : Nat) : W.cell? ⟨b, j, none⟩ = cs[j]? := (hf.blk (hl _ _ hb)).cell j
/-- The facts of a result's cell at a world. -/
theorem RsSt.facts {w0 : World} {φ0 φ : Phi} {b : Nat} {T : TypeId} {wr : World} (h : RsSt w0 φ0 φ b #[.bool false, .slice none 0 0, .slice none 0 0] T wr) :
    wr.cell? ⟨b, 0, none⟩ = some (.bool false) ∧ wr.cell? ⟨b, 1, none⟩ = some (.slice none 0 0) ∧ wr.cell? ⟨b, 2, none⟩ = some (.slice none 0 0) ∧ wr.frozen? ⟨b, 0, none⟩ = false ∧ wr.frozen? ⟨b, 1, none⟩ = false ∧ wr.frozen? ⟨b, 2, none⟩ = false :=
  ⟨h.k.cell 0, h.k.cell 1, h.k.cell 2, h.k.frz 0, h.k.frz 1, h.k.frz 2⟩
theorem gcd_dle {m n : Nat} (h : 0 < n) : 0 < Nat.gcd m n := Nat.pos_of_ne_zero (fun e => by have := Nat.eq_zero_of_gcd_eq_zero_right e; omega)
theorem sgn_and (neg : Bool) (m : Nat) : sgn (neg && decide (m ≠ 0)) m = sgn neg m := by
  cases neg
  · rfl
  · by_cases h : m = 0
    · subst h; rfl
    · simp [sgn, h]
theorem sgn_mul (neg : Bool) (g m : Nat) : (g : Int) * sgn neg m = sgn neg (g * m) := by
  cases neg <;> simp [sgn, Int.mul_neg]
theorem rat_lowest {neg : Bool} {n d g : Nat} (hg : 0 < g) (h1 : g ∣ n) (h2 : g ∣ d) : rat (neg && decide (n / g ≠ 0)) (n / g) (d / g) = rat neg n d := by
  unfold rat
  rw [sgn_and]
  conv => rhs; rw [← Nat.mul_div_cancel' h1, ← Nat.mul_div_cancel' h2, ← sgn_mul]
  rw [Rat.mkRat_mul_left (by omega)]
theorem rat_one (neg : Bool) (n : Nat) : rat neg n 1 = (sgn neg n : Int) := by
  apply Rat.ext
  · simp [rat, Rat.num_mkRat]
  · simp [rat, Rat.den_mkRat]
end Go.Proofs.YtnlhalnjbkpdnaaGreatDoor

namespace Go.Proofs.YtnlhalnjbkpdnaaGreatDoor
open Go.RowKit
theorem keep1 {w : World} {a x : Addr} {v u : Value} (h : w.cell? a = some v) (hne : x.block ≠ a.block) : (w.setCell x u).cell? a = some v := by
  rw [World.cell?_setCell_other]
  · exact h
  · intro e; exact hne (by rw [e])
theorem keep2 {w : World} {a : Addr} {v u0 u1 : Value} {g : Nat} (h : w.cell? a = some v) (hne : g ≠ a.block) : ((w.setCell ⟨g, 0, none⟩ u0).setCell ⟨g, 1, none⟩ u1).cell? a = some v := keep1 (keep1 h hne) hne
theorem keep3 {w : World} {a : Addr} {v u0 u1 u2 : Value} {g : Nat} (h : w.cell? a = some v) (hne : g ≠ a.block) : (((w.setCell ⟨g, 0, none⟩ u0).setCell ⟨g, 1, none⟩ u1).setCell ⟨g, 2, none⟩ u2).cell? a = some v := keep1 (keep1 (keep1 h hne) hne) hne
end Go.Proofs.YtnlhalnjbkpdnaaGreatDoor
