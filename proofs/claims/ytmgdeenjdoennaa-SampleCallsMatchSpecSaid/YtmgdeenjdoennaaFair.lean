import Derived.Test.YtmgdeenjdoennaaW1
namespace Go.Proofs.Ytmgdeenjdoennaa

def sumTo (f : Nat → Int) : Nat → Int
  | 0 => 0
  | n + 1 => sumTo f n + f n
theorem sumTo_congr {f g : Nat → Int} : ∀ n, (∀ i, i < n → f i = g i) → sumTo f n = sumTo g n
  | 0, _ => rfl
  | n + 1, h => by rw [sumTo, sumTo, sumTo_congr n (fun i hi => h i (by omega)), h n (by omega)]
theorem sumTo_sub (f g : Nat → Int) : ∀ n, sumTo (fun i => f i - g i) n = sumTo f n - sumTo g n
  | 0 => rfl
  | n + 1 => by simp only [sumTo]; rw [sumTo_sub f g n]; omega
theorem sumTo_bd {f : Nat → Int} (c : Int) : ∀ n, (∀ i, i < n → 0 ≤ f i ∧ f i ≤ c) → 0 ≤ sumTo f n ∧ sumTo f n ≤ n * c
  | 0, _ => by simp [sumTo]
  | n + 1, h => by
    have := sumTo_bd c n (fun i hi => h i (by omega))
    have h2 := h n (by omega)
    have e : ((n + 1 : Nat) : Int) * c = n * c + c := by rw [Int.natCast_add, Int.add_mul]; simp
    simp only [sumTo]
    rw [e]
    constructor <;> omega
theorem sumTo_zero : ∀ n, sumTo (fun _ => 0) n = 0
  | 0 => rfl
  | n + 1 => by simp [sumTo, sumTo_zero n]
/-- Shifted by one. -/
theorem sumTo_shift (f : Nat → Int) : ∀ n, sumTo (fun i => f (i + 1)) n = sumTo f n + f n - f 0
  | 0 => by simp [sumTo]
  | n + 1 => by simp only [sumTo]; rw [sumTo_shift f n]; omega
theorem sumTo_rev (f : Nat → Int) : ∀ n, sumTo (fun i => f (n - 1 - i)) n = sumTo f n
  | 0 => rfl
  | n + 1 => by
    have h1 : sumTo (fun i => f (n + 1 - 1 - i)) (n + 1) = f n + sumTo (fun i => f (n - 1 - i)) n := by
      have h0 := sumTo_shift (fun i => f (n - i)) n
      have h2 : sumTo (fun i => f (n - (i + 1))) n = sumTo (fun i => f (n - 1 - i)) n := sumTo_congr n (fun i hi => by congr 1; omega)
      simp only [sumTo, Nat.add_sub_cancel]
      rw [h2] at h0
      simp only [Nat.sub_self, Nat.sub_zero] at h0 ⊢
      omega
    rw [h1, sumTo_rev f n, sumTo]; omega

/-- Hermite's identity. -/
theorem hermite (W : Nat) (hW : 0 < W) : ∀ b : Nat, sumTo (fun r => ((b : Int) + r) / W) W = b
  | 0 => by
    rw [sumTo_congr (g := fun _ => 0) W (fun i hi => by
      simp only [Int.natCast_zero, Int.zero_add]
      exact Int.ediv_eq_zero_of_lt (by omega) (by omega)), sumTo_zero]
    rfl
  | b + 1 => by
    have h := sumTo_shift (fun r => ((b : Int) + r) / W) W
    rw [hermite W hW b] at h
    rw [sumTo_congr (g := fun i => ((b : Int) + (i + 1 : Nat)) / W) W (fun i hi => by congr 1; omega), h]
    have : ((b : Int) + W) / W = b / W + 1 := by
      rw [Int.add_ediv_of_dvd_right (Int.dvd_refl _), Int.ediv_self (by omega)]
    rw [this]
    simp only [Int.natCast_zero, Int.add_zero]
    generalize (b : Int) / W = q
    omega

theorem belowL_eq {bound start whole take : Int} (h0 : 0 ≤ start) (h1 : start < whole) (hb : 0 ≤ bound) (hb2 : bound ≤ take * whole) : belowL bound start whole take = (bound - start + whole - 1) / whole := by
  unfold belowL
  split
  · exact (Int.ediv_eq_zero_of_lt (by omega) (by omega)).symm
  · refine Int.min_eq_left ?_
    refine Int.le_of_lt_add_one (Int.ediv_lt_of_lt_mul (by omega) ?_)
    rw [Int.add_mul]
    omega

theorem belowL_sum (W : Nat) (bound take : Int) (hW : 0 < W) (hb : 0 ≤ bound) (hb2 : bound ≤ take * W) : sumTo (fun s => belowL bound s W take) W = bound := by
  obtain ⟨b, rfl⟩ := Int.eq_ofNat_of_zero_le hb
  have h := hermite W hW b
  rw [← sumTo_rev] at h
  refine Eq.trans (sumTo_congr W fun i hi => ?_) h
  rw [belowL_eq (by omega) (by omega) hb hb2]
  congr 1
  omega

theorem sumL_take_succ (sizes : List Int) (i : Nat) (h : i < sizes.length) : sumL (sizes.take (i + 1)) = sumL (sizes.take i) + sizes[i] := by
  rw [take_snoc _ _ h, sumL_snoc]

/-- Which hits, as a function. -/
def Hn (sizes : List Int) (take : Int) (start : Nat) (i : Nat) : Int := hitL (sumL sizes) take start (sumL (sizes.take i)) (sizes.getD i 0)
theorem hitsL_tab (sizes : List Int) (take : Int) (start : Nat) : hitsL sizes take start = (List.range sizes.length).map (Hn sizes take start) := rfl

section
variable {sizes : List Int} {take : Int} (h1 : ∀ x ∈ sizes, 1 ≤ x ∧ x ≤ 1000) (ht : 0 ≤ take)
include h1
theorem P_mono : ∀ k, k ≤ sizes.length → 0 ≤ sumL (sizes.take k)
  | 0, _ => by simp [sumL]
  | k + 1, h => by
    have := P_mono k (by omega)
    have hx := h1 _ (List.getElem_mem (show k < sizes.length by omega))
    rw [sumL_take_succ _ _ (by omega)]; omega
theorem P_le (k : Nat) (hk : k ≤ sizes.length) : sumL (sizes.take k) ≤ sumL sizes := by
  obtain ⟨d, hd⟩ : ∃ d, d = sizes.length - k := ⟨_, rfl⟩
  induction d generalizing k with
  | zero => have : k = sizes.length := by omega
            subst this; simp
  | succ d ih =>
    have hx := h1 _ (List.getElem_mem (show k < sizes.length by omega))
    have := ih (k + 1) (by omega) (by omega)
    rw [sumL_take_succ _ _ (by omega)] at this
    omega
include ht
theorem Hn_sum (W : Nat) (hW : sumL sizes = W) (i : Nat) (hi : i < sizes.length) : sumTo (fun s => Hn sizes take s i) W = take * sizes[i] := by
  have hx := h1 _ (List.getElem_mem hi)
  have p0 := P_mono h1 i (by omega)
  have p1 := P_le h1 (i + 1) (by omega)
  rw [sumL_take_succ _ _ hi] at p1
  have hWp : 0 < W := by omega
  simp only [Hn, hitL, hW]
  rw [sumTo_sub]
  have e : sizes.getD i 0 = sizes[i] := by simp [hi]
  rw [e]
  generalize sumL (sizes.take i) = p at *
  generalize sizes[i] = m at *
  have k1 : take * (p + m) ≤ take * W := Int.mul_le_mul_of_nonneg_left (by omega) ht
  have k2 : take * p ≤ take * W := Int.mul_le_mul_of_nonneg_left (by omega) ht
  rw [belowL_sum W _ take hWp (Int.mul_nonneg ht (by omega)) k1, belowL_sum W _ take hWp (Int.mul_nonneg ht (by omega)) k2, Int.mul_add]
  omega
omit h1 in
theorem Hn_total (W : Nat) (hW : sumL sizes = W) (s : Nat) (hs : s < W) : sumTo (Hn sizes take s) sizes.length = take := by
  have key : ∀ k, k ≤ sizes.length → sumTo (Hn sizes take s) k = belowL (take * sumL (sizes.take k)) s W take - belowL 0 s W take := by
    intro k
    induction k with
    | zero => intro _; simp [sumTo, sumL]
    | succ k ih =>
      intro hk
      have e : sizes.getD k 0 = sizes[k] := by simp [show k < sizes.length by omega]
      rw [sumTo, ih (by omega), Hn, hitL, hW, sumL_take_succ _ _ (by omega), e]
      omega
  rw [key _ (Nat.le_refl _), List.take_length, hW, belowL_eq (by omega) (by omega) (Int.mul_nonneg ht (by omega)) (Int.le_refl _), belowL_eq (by omega) (by omega) (by omega) (Int.mul_nonneg ht (by omega))]
  have e1 : (take * W - s + W - 1) / (W : Int) = take := by
    have : take * W - s + W - 1 = (W - 1 - s) + take * W := by omega
    rw [this, Int.add_mul_ediv_right _ _ (by omega), Int.ediv_eq_zero_of_lt (by omega) (by omega)]
    omega
  have e2 : ((0 : Int) - s + W - 1) / (W : Int) = 0 := Int.ediv_eq_zero_of_lt (by omega) (by omega)
  rw [e1, e2]; omega
theorem Hn_bd (W : Nat) (hW : sumL sizes = W) (s : Nat) (hs : s < W) (i : Nat) (hi : i < sizes.length) : 0 ≤ Hn sizes take s i ∧ Hn sizes take s i ≤ take := by
  have hx := h1 _ (List.getElem_mem hi)
  have p0 := P_mono h1 i (by omega)
  have p1 := P_le h1 (i + 1) (by omega)
  rw [sumL_take_succ _ _ hi] at p1
  have e : sizes.getD i 0 = sizes[i] := by simp [hi]
  rw [Hn, hitL, hW, e]
  generalize sumL (sizes.take i) = p at *
  generalize sizes[i] = m at *
  have k1 : take * (p + m) ≤ take * W := Int.mul_le_mul_of_nonneg_left (by omega) ht
  have k2 : take * p ≤ take * W := Int.mul_le_mul_of_nonneg_left (by omega) ht
  have k3 : take * p ≤ take * (p + m) := Int.mul_le_mul_of_nonneg_left (by omega) ht
  have q1 := belowL_bd (take * (p + m)) s W take ht (by omega) (by omega)
  have q2 := belowL_bd (take * p) s W take ht (by omega) (by omega)
  rw [belowL_eq (by omega) (by omega) (Int.mul_nonneg ht (by omega)) k1, belowL_eq (by omega) (by omega) (Int.mul_nonneg ht (by omega)) k2] at *
  have := Int.ediv_le_ediv (c := (W : Int)) (by omega) (show take * p - s + W - 1 ≤ take * (p + m) - s + W - 1 by omega)
  omega
end
end Go.Proofs.Ytmgdeenjdoennaa
