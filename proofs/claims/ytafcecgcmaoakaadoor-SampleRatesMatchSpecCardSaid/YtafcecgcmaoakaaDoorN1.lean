/- Natural numbers as limbs of nine digits, the lowest first: the plain law. Conditions: none; plain Lean. -/
import Derived.Test.YtafcecgcmaoakaaDoorLit
namespace Go.Proofs.YtafcecgcmaoakaaDoor
open Go.RowKit
set_option linter.unusedVariables false
/-- The base of a limb. -/
def lb : Nat := 1000000000
theorem lb_pos : 0 < lb := by decide
theorem lb_gt : 1 < lb := by decide
def LV : List Nat → Nat
  | [] => 0
  | x :: xs => x + lb * LV xs
/-- The limbs of a number, without a highest one that is 0. -/
def limbs (n : Nat) : List Nat := if h : n = 0 then [] else (n % lb) :: limbs (n / lb)
termination_by n
decreasing_by exact Nat.div_lt_self (by omega) lb_gt
def Lim (xs : List Nat) : Prop := ∀ x ∈ xs, x < lb
theorem limbs_zero : limbs 0 = [] := by rw [limbs]; simp
theorem limbs_pos {n : Nat} (h : n ≠ 0) : limbs n = (n % lb) :: limbs (n / lb) := by rw [limbs]; simp [h]
theorem LV_limbs (n : Nat) : LV (limbs n) = n := by
  induction n using Nat.strongRecOn with
  | _ n ih =>
    by_cases h : n = 0
    · subst h; rw [limbs_zero]; rfl
    · rw [limbs_pos h, LV, ih _ (Nat.div_lt_self (by omega) lb_gt)]
      exact Nat.mod_add_div n lb
theorem limbs_lim (n : Nat) : Lim (limbs n) := by
  induction n using Nat.strongRecOn with
  | _ n ih =>
    by_cases h : n = 0
    · subst h; rw [limbs_zero]; intro x hx; simp at hx
    · rw [limbs_pos h]
      intro x hx
      rcases List.mem_cons.1 hx with rfl | hx
      · exact Nat.mod_lt _ lb_pos
      · exact ih _ (Nat.div_lt_self (by omega) lb_gt) x hx
theorem Lim.tail {x : Nat} {xs : List Nat} (h : Lim (x :: xs)) : x < lb ∧ Lim xs := ⟨h x (by simp), fun y hy => h y (by simp [hy])⟩
theorem LV_zero_of {xs : List Nat} : LV xs = 0 → ∀ x ∈ xs, x = 0 := by
  induction xs with
  | nil => intro _ x hx; simp at hx
  | cons y ys ih =>
    intro h x hx
    rw [LV] at h
    have h2 : lb * LV ys = 0 := by omega
    have h3 : LV ys = 0 := by rcases Nat.mul_eq_zero.1 h2 with q | q; exact absurd q (by decide); exact q
    rcases List.mem_cons.1 hx with rfl | hx
    · omega
    · exact ih h3 x hx
/-- Limbs without a highest 0 are the number's. -/
theorem limbs_LV : ∀ {xs : List Nat}, Lim xs → (∀ (h : xs ≠ []), xs.getLast h ≠ 0) → limbs (LV xs) = xs
  | [], _, _ => by rw [LV, limbs_zero]
  | x :: xs, hl, ht => by
    obtain ⟨h1, h2⟩ := hl.tail
    have hne : LV (x :: xs) ≠ 0 := fun h => by
      have := LV_zero_of h ((x :: xs).getLast (by simp)) (List.getLast_mem _)
      exact ht (by simp) this
    have e1 : LV (x :: xs) % lb = x := by rw [LV, Nat.add_mul_mod_self_left, Nat.mod_eq_of_lt h1]
    have e2 : LV (x :: xs) / lb = LV xs := by rw [LV, Nat.add_mul_div_left _ _ lb_pos, Nat.div_eq_of_lt h1, Nat.zero_add]
    rw [limbs_pos hne, e1, e2, limbs_LV h2 (fun h => by
      have := ht (by simp)
      rwa [List.getLast_cons h] at this)]
theorem LV_append (xs ys : List Nat) : LV (xs ++ ys) = LV xs + lb ^ xs.length * LV ys := by
  induction xs with
  | nil => simp [LV]
  | cons x xs ih =>
    rw [List.cons_append, LV, LV, ih, List.length_cons, Nat.pow_succ, Nat.mul_add, ← Nat.mul_assoc, Nat.mul_comm lb (lb ^ _)]
    omega
theorem LV_lt {xs : List Nat} : Lim xs → LV xs < lb ^ xs.length := by
  induction xs with
  | nil => intro _; simp [LV]
  | cons x xs ih =>
    intro h
    obtain ⟨h1, h2⟩ := h.tail
    have h3 := ih h2
    rw [LV, List.length_cons, Nat.pow_succ]
    have h4 : lb * (LV xs + 1) ≤ lb * lb ^ xs.length := Nat.mul_le_mul_left _ h3
    rw [Nat.mul_add, Nat.mul_one, Nat.mul_comm lb (lb ^ _)] at h4
    omega
theorem Lim.take {xs : List Nat} (h : Lim xs) (k : Nat) : Lim (xs.take k) := fun x hx => h x (List.mem_of_mem_take hx)
theorem Lim.drop {xs : List Nat} (h : Lim xs) (k : Nat) : Lim (xs.drop k) := fun x hx => h x (List.mem_of_mem_drop hx)
theorem Lim.append {xs ys : List Nat} (h : Lim xs) (k : Lim ys) : Lim (xs ++ ys) := fun x hx => by rcases List.mem_append.1 hx with q | q; exact h x q; exact k x q
theorem Lim.one {x : Nat} (h : x < lb) : Lim [x] := fun y hy => by simp at hy; rw [hy]; exact h
theorem Lim.getD {xs : List Nat} (h : Lim xs) (k : Nat) : xs.getD k 0 < lb := by
  by_cases hk : k < xs.length
  · rw [List.getD_eq_getElem?_getD, List.getElem?_eq_getElem hk]; exact h _ (List.getElem_mem _)
  · rw [List.getD_eq_getElem?_getD, List.getElem?_eq_none (by omega)]; exact lb_pos
theorem take_succ_getD (xs : List Nat) (k : Nat) (h : k < xs.length) : xs.take (k + 1) = xs.take k ++ [xs.getD k 0] := by
  rw [List.take_add_one, List.getElem?_eq_getElem h, List.getD_eq_getElem?_getD, List.getElem?_eq_getElem h]; rfl
/-- One limb more. -/
theorem LV_take (xs : List Nat) (k : Nat) : LV (xs.take (k + 1)) = LV (xs.take k) + lb ^ k * xs.getD k 0 := by
  by_cases h : k < xs.length
  · rw [take_succ_getD xs k h, LV_append, List.length_take, Nat.min_eq_left (by omega)]
    simp [LV]
  · rw [List.take_of_length_le (by omega), List.take_of_length_le (by omega), List.getD_eq_getElem?_getD, List.getElem?_eq_none (by omega)]
    simp
theorem LV_take_drop (xs : List Nat) (k : Nat) (h : k ≤ xs.length) : LV xs = LV (xs.take k) + lb ^ k * LV (xs.drop k) := by
  have := LV_append (xs.take k) (xs.drop k)
  rw [List.take_append_drop, List.length_take, Nat.min_eq_left h] at this
  exact this
theorem LV_drop (xs : List Nat) (k : Nat) (h : k < xs.length) : LV (xs.drop k) = xs.getD k 0 + lb * LV (xs.drop (k + 1)) := by
  rw [List.drop_eq_getElem_cons h, LV, List.getD_eq_getElem?_getD, List.getElem?_eq_getElem h]; rfl
theorem LV_drop_ge (xs : List Nat) (k : Nat) (h : xs.length ≤ k) : LV (xs.drop k) = 0 := by rw [List.drop_of_length_le h]; rfl
/-- A number's last limb is not 0. -/
theorem limbs_top : ∀ {n : Nat} (h : limbs n ≠ []), (limbs n).getLast h ≠ 0 := by
  intro n
  induction n using Nat.strongRecOn with
  | _ n ih =>
    intro h
    by_cases h0 : n = 0
    · subst h0; exact absurd limbs_zero h
    · by_cases h1 : limbs (n / lb) = []
      · have e : n / lb = 0 := by have := LV_limbs (n / lb); rw [h1] at this; exact this.symm
        have e2 : limbs n = [n % lb] := by rw [limbs_pos h0, h1]
        have : n % lb = n := by have := Nat.mod_add_div n lb; rw [e] at this; omega
        simp only [e2, List.getLast_singleton]
        omega
      · have := ih _ (Nat.div_lt_self (by omega) lb_gt) h1
        have e2 : (limbs n).getLast h = (limbs (n / lb)).getLast h1 := by
          have : limbs n = (n % lb) :: limbs (n / lb) := limbs_pos h0
          simp only [this, List.getLast_cons h1]
        rw [e2]; exact this
theorem limbs_nil {n : Nat} : limbs n = [] ↔ n = 0 := ⟨fun h => by have := LV_limbs n; rw [h] at this; exact this.symm, fun h => by rw [h, limbs_zero]⟩
theorem limbs_len0 {n : Nat} : (limbs n).length = 0 ↔ n = 0 := by rw [List.length_eq_zero_iff, limbs_nil]
theorem limbs_lt (n : Nat) : n < lb ^ (limbs n).length := by have := LV_lt (limbs_lim n); rwa [LV_limbs] at this
theorem getD_last {xs : List Nat} (h : xs ≠ []) : xs.getD (xs.length - 1) 0 = xs.getLast h := by
  rw [List.getLast_eq_getElem, List.getD_eq_getElem?_getD, List.getElem?_eq_getElem (by have := List.length_pos_iff.2 h; omega)]; rfl
theorem limbs_ge {n k : Nat} (h : (limbs n).length = k + 1) : lb ^ k ≤ n := by
  have hne : limbs n ≠ [] := fun e => by rw [e] at h; cases h
  have h1 := LV_take (limbs n) k
  rw [List.take_of_length_le (by omega), LV_limbs] at h1
  have h2 := getD_last hne
  rw [h, Nat.add_sub_cancel] at h2
  have h3 := limbs_top hne
  rw [← h2] at h3
  have : lb ^ k * 1 ≤ lb ^ k * (limbs n).getD k 0 := Nat.mul_le_mul_left _ (by omega)
  omega
theorem limbs_le {n k : Nat} (h : n < lb ^ k) : (limbs n).length ≤ k := by
  rcases Nat.lt_or_ge k (limbs n).length with q | q
  · exfalso
    obtain ⟨j, hj⟩ : ∃ j, (limbs n).length = j + 1 := ⟨(limbs n).length - 1, by omega⟩
    have h1 := limbs_ge hj
    have h2 : lb ^ k ≤ lb ^ j := Nat.pow_le_pow_right lb_pos (by omega)
    omega
  · exact q
theorem limbs_mono {m n : Nat} (h : m ≤ n) : (limbs m).length ≤ (limbs n).length := limbs_le (Nat.lt_of_le_of_lt h (limbs_lt n))
theorem limbs_add (m n : Nat) : (limbs (m + n)).length ≤ max (limbs m).length (limbs n).length + 1 := by
  apply limbs_le
  have h1 := limbs_lt m
  have h2 := limbs_lt n
  have h3 : lb ^ (limbs m).length ≤ lb ^ max (limbs m).length (limbs n).length := Nat.pow_le_pow_right lb_pos (Nat.le_max_left _ _)
  have h4 : lb ^ (limbs n).length ≤ lb ^ max (limbs m).length (limbs n).length := Nat.pow_le_pow_right lb_pos (Nat.le_max_right _ _)
  rw [Nat.pow_succ]
  have h5 : lb ^ max (limbs m).length (limbs n).length * 2 ≤ lb ^ max (limbs m).length (limbs n).length * lb := Nat.mul_le_mul_left _ (by decide)
  omega
theorem limbs_mul (m n : Nat) : (limbs (m * n)).length ≤ (limbs m).length + (limbs n).length := by
  apply limbs_le
  rw [Nat.pow_add]
  exact Nat.mul_lt_mul'' (limbs_lt m) (limbs_lt n)
/-- Leading zeros left out. -/
theorem trim_eq {xs : List Nat} (h : Lim xs) {k : Nat} (hk : k ≤ xs.length) (hz : ∀ i, k ≤ i → i < xs.length → xs.getD i 0 = 0) (ht : k = 0 ∨ xs.getD (k - 1) 0 ≠ 0) : xs.take k = limbs (LV xs) := by
  have hd : LV (xs.drop k) = 0 := by
    have : ∀ j, k + j ≤ xs.length → LV (xs.drop (xs.length - j)) = 0 := by
      intro j
      induction j with
      | zero => intro _; rw [Nat.sub_zero]; exact LV_drop_ge _ _ (Nat.le_refl _)
      | succ j ih =>
        intro hj
        rw [LV_drop _ _ (by omega), show xs.length - (j + 1) + 1 = xs.length - j by omega, ih (by omega), hz _ (by omega) (by omega)]
        rfl
    have h2 := this (xs.length - k) (by omega)
    rwa [show xs.length - (xs.length - k) = k by omega] at h2
  have e : LV xs = LV (xs.take k) := by rw [LV_take_drop xs k hk, hd]; omega
  rw [e]
  refine (limbs_LV (h.take k) (fun hne => ?_)).symm
  have hk0 : 0 < k := by
    rcases Nat.eq_zero_or_pos k with q | q
    · subst q; simp at hne
    · exact q
  rcases ht with q | q
  · omega
  · have h3 := getD_last hne
    rw [List.length_take, Nat.min_eq_left hk] at h3
    rw [← h3]
    have : (xs.take k).getD (k - 1) 0 = xs.getD (k - 1) 0 := by
      rw [List.getD_eq_getElem?_getD, List.getD_eq_getElem?_getD, List.getElem?_take_of_lt (by omega)]
    rw [this]; exact q
/-- A natural number in memory: a slice of limbs of 64 bits. -/
instance : Rep Nat where
  size := 1
  rep := fun _ x cs => cs = [.int .u64 (x : Int)]
  len := by intro _ _ _ h; subst h; rfl
  mono := fun _ h => h
  one := by intro _ _ _ h u hu; subst h; simp at hu; subst hu; rfl
theorem SlV.natD {φ : Phi} {a : Option Addr} {cap : Nat} {xs : List Nat} (h : SlV φ a cap xs) {k n : Nat} (hn : Hid (xs.length = n)) (hk : k < n) :
    ∃ b off, a = some ⟨b, off, none⟩ ∧ ∀ k, k < n → ∀ w, Fz φ w → b < w.heap.size ∧ w.cell? ⟨b, off + k, none⟩ = some (.int .u64 ((xs.getD k 0 : Nat) : Int)) := by
  obtain ⟨b, off, ha, hc⟩ := h.cellsD 0 hn hk
  refine ⟨b, off, ha, fun k hk w hw => ?_⟩
  obtain ⟨cs, hr, hj⟩ := hc k hk
  cases hr
  have j0 := hj 0 (by simp)
  simp [Rep.size] at j0
  exact ⟨hw.lt j0, hw.cell j0⟩
theorem Own.natD {B : Nat} {φ : Phi} {w : World} {E : TypeId} {a : Option Addr} {cap : Nat} {xs : List Nat} (h : Own B φ w E a cap xs) {k n : Nat} (hn : Hid (xs.length = n)) (hk : k < n) :
    ∃ g, a = some ⟨g, 0, none⟩ ∧ g < w.heap.size ∧ ∀ k, k < n → w.cell? ⟨g, k, none⟩ = some (.int .u64 ((xs.getD k 0 : Nat) : Int)) ∧ w.frozen? ⟨g, k, none⟩ = false ∧
      ∀ (y : Nat) w0 φ0, Inv B w0 φ0 φ w → Own B φ (w.setCell ⟨g, k, none⟩ (.int .u64 (y : Int))) E a cap (xs.set k y) ∧ Inv B w0 φ0 φ (w.setCell ⟨g, k, none⟩ (.int .u64 (y : Int))) := by
  obtain ⟨g, rfl, _, hg, _, hf, hc⟩ := h.elem (k := k) (by rw [hn.out]; exact hk)
  refine ⟨g, rfl, hg, fun k hk => ?_⟩
  have hk' : k < xs.length := by rw [hn.out]; exact hk
  obtain ⟨cs, hcs, hj⟩ := hc k hk'
  have hcs' : cs = [.int .u64 (xs[k] : Int)] := hcs
  subst hcs'
  have h0 := hj 0 (by simp)
  simp [Rep.size] at h0
  refine ⟨by rw [h0, getD_elem0 _ _ _ hk'], hf k, fun y w0 φ0 hi => ?_⟩
  have := h.setCell hi hk' (y := y) (j := 0) (u := .int .u64 (y : Int)) hj rfl (by simp) rfl
  simpa [Rep.size] using this
end Go.Proofs.YtafcecgcmaoakaaDoor
