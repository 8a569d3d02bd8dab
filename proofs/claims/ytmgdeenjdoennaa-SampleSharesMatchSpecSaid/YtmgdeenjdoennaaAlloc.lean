/- Plain law of the division of a total: what Allocate computes, and that it is fair. No program in sight. -/
import Derived.Test.YtmgdeenjdoennaaT
namespace Go.Proofs.Ytmgdeenjdoennaa
set_option linter.unusedVariables false

/-- Which part gets the next one, of the first k; -1: none. -/
def bestTo (ws most out : List Int) : Nat → Int
  | 0 => -1
  | k + 1 =>
    let b := bestTo ws most out k
    if out.getD k 0 < most.getD k 0 ∧ (b < 0 ∨ ws.getD k 0 * (2 * out.getD b.toNat 0 + 1) > ws.getD b.toNat 0 * (2 * out.getD k 0 + 1)) then (k : Int) else b
def stepA (ws most out : List Int) : List Int := out.set (bestTo ws most out ws.length).toNat (out.getD (bestTo ws most out ws.length).toNat 0 + 1)
def stepsA (ws most out : List Int) : Nat → List Int
  | 0 => out
  | k + 1 => stepA ws most (stepsA ws most out k)
def badShare (ws least most : List Int) (i : Nat) : Prop := outB (ws.getD i 0) 0 1000000000 = true ∨ outB (least.getD i 0) 0 (most.getD i 0) = true ∨ 5000 < most.getD i 0
noncomputable def AllocF (ws least most : List Int) (total : Int) : List Int × Int :=
  open Classical in
  if ws.length ≠ least.length ∨ ws.length ≠ most.length then ([], 3)
  else if 40 < ws.length then ([], 2)
  else if ∃ i, i < ws.length ∧ badShare ws least most i then ([], 1)
  else if total < sumL least then ([], 1)
  else if sumL most < total then ([], 15)
  else (stepsA ws most least (total - sumL least).toNat, 0)

theorem bestTo_rng (ws most out : List Int) : ∀ k, -1 ≤ bestTo ws most out k ∧ bestTo ws most out k < k
  | 0 => by simp [bestTo]
  | k + 1 => by have := bestTo_rng ws most out k; simp only [bestTo]; split <;> omega

/-- What holds of the shares all along. -/
structure Good (ws least most out : List Int) : Prop where
  l1 : least.length = ws.length
  l2 : most.length = ws.length
  l3 : out.length = ws.length
  ws0 : ∀ i, i < ws.length → 0 ≤ ws.getD i 0 ∧ ws.getD i 0 ≤ 1000000000
  lo : ∀ i, i < ws.length → 0 ≤ least.getD i 0 ∧ least.getD i 0 ≤ out.getD i 0
  hi : ∀ i, i < ws.length → out.getD i 0 ≤ most.getD i 0 ∧ most.getD i 0 ≤ 5000
/-- None can give one to another that has a greater quotient for it. -/
def Fair (ws least most out : List Int) : Prop :=
  ∀ i k, i < ws.length → k < ws.length → least.getD i 0 < out.getD i 0 → out.getD k 0 < most.getD k 0 → ws.getD k 0 * (2 * out.getD i 0 - 1) ≤ ws.getD i 0 * (2 * out.getD k 0 + 1)

theorem mul_chain {wj wb wi oj ob oi : Int} (hj : 0 ≤ oj) (hb : 0 ≤ ob) (hi : 0 ≤ oi) (h1 : wj * (2 * ob + 1) ≤ wb * (2 * oj + 1)) (h2 : wb * (2 * oi + 1) ≤ wi * (2 * ob + 1)) : wj * (2 * oi + 1) ≤ wi * (2 * oj + 1) := by
  have a1 := Int.mul_le_mul_of_nonneg_right h1 (show 0 ≤ 2 * oi + 1 by omega)
  have a2 := Int.mul_le_mul_of_nonneg_right h2 (show 0 ≤ 2 * oj + 1 by omega)
  refine Int.le_of_mul_le_mul_right (a := 2 * ob + 1) ?_ (by omega)
  have e1 : wj * (2 * ob + 1) * (2 * oi + 1) = wj * (2 * oi + 1) * (2 * ob + 1) := by rw [Int.mul_assoc, Int.mul_comm (2 * ob + 1), ← Int.mul_assoc]
  have e2 : wb * (2 * oj + 1) * (2 * oi + 1) = wb * (2 * oi + 1) * (2 * oj + 1) := by rw [Int.mul_assoc, Int.mul_comm (2 * oj + 1), ← Int.mul_assoc]
  have e3 : wi * (2 * ob + 1) * (2 * oj + 1) = wi * (2 * oj + 1) * (2 * ob + 1) := by rw [Int.mul_assoc, Int.mul_comm (2 * ob + 1), ← Int.mul_assoc]
  omega

section
variable {ws least most out : List Int} (g : Good ws least most out)
include g
/-- The best of the first k: there is one just if one has room, and none has a greater quotient. -/
theorem bestTo_best : ∀ k, k ≤ ws.length →
    (bestTo ws most out k < 0 → ∀ j, j < k → ¬ out.getD j 0 < most.getD j 0) ∧
    (0 ≤ bestTo ws most out k → out.getD (bestTo ws most out k).toNat 0 < most.getD (bestTo ws most out k).toNat 0 ∧
      ∀ j, j < k → out.getD j 0 < most.getD j 0 → ws.getD j 0 * (2 * out.getD (bestTo ws most out k).toNat 0 + 1) ≤ ws.getD (bestTo ws most out k).toNat 0 * (2 * out.getD j 0 + 1))
  | 0, _ => ⟨fun _ j hj => by omega, fun h => by simp [bestTo] at h⟩
  | k + 1, hk => by
    obtain ⟨h1, h2⟩ := bestTo_best k (by omega)
    have r := bestTo_rng ws most out k
    have nn : ∀ j, j < ws.length → 0 ≤ out.getD j 0 := fun j hj => by have := g.lo j hj; omega
    simp only [bestTo]
    by_cases hc : out.getD k 0 < most.getD k 0 ∧ (bestTo ws most out k < 0 ∨ ws.getD k 0 * (2 * out.getD (bestTo ws most out k).toNat 0 + 1) > ws.getD (bestTo ws most out k).toNat 0 * (2 * out.getD k 0 + 1))
    · rw [if_pos hc]
      refine ⟨fun h => by omega, fun _ => ⟨by simpa using hc.1, fun j hj hr => ?_⟩⟩
      rw [Int.toNat_natCast]
      by_cases e : j = k
      · subst e; exact Int.le_refl _
      · rcases hc.2 with hb | hb
        · exact absurd hr (h1 hb j (by omega))
        · by_cases hneg : bestTo ws most out k < 0
          · exact absurd hr (h1 hneg j (by omega))
          · exact mul_chain (nn j (by omega)) (nn _ (by omega)) (nn k (by omega)) ((h2 (by omega)).2 j (by omega) hr) (Int.le_of_lt hb)
    · rw [if_neg hc]
      refine ⟨fun h j hj => ?_, fun h => ⟨(h2 h).1, fun j hj hr => ?_⟩⟩
      · by_cases e : j = k
        · subst e; exact fun hr => hc ⟨hr, .inl h⟩
        · exact h1 h j (by omega)
      · by_cases e : j = k
        · subst e
          exact Int.not_lt.1 fun hlt => hc ⟨hr, .inr hlt⟩
        · exact (h2 h).2 j (by omega) hr
end

theorem getD_set (l : List Int) (b : Nat) (x : Int) (i : Nat) (hb : b < l.length) : (l.set b x).getD i 0 = if i = b then x else l.getD i 0 := by
  simp only [List.getD_eq_getElem?_getD, List.getElem?_set]
  by_cases e : b = i
  · subst e; simp [hb]
  · rw [if_neg e, if_neg (fun h => e h.symm)]
theorem sumL_append (a b : List Int) : sumL (a ++ b) = sumL a + sumL b := by
  suffices H : ∀ (b : List Int) (s : Int), b.foldl (· + ·) s = s + b.foldl (· + ·) 0 by
    simp only [sumL, List.foldl_append]; exact H b _
  intro b
  induction b with
  | nil => intro s; simp
  | cons x b ih => intro s; simp only [List.foldl_cons]; rw [ih (s + x), ih (0 + x)]; omega
theorem sumL_cons (x : Int) (b : List Int) : sumL (x :: b) = x + sumL b := by
  have := sumL_append [x] b; simpa [sumL] using this
theorem sumL_set (l : List Int) (b : Nat) (hb : b < l.length) : sumL (l.set b (l.getD b 0 + 1)) = sumL l + 1 := by
  induction l generalizing b with
  | nil => simp at hb
  | cons y l ih =>
    cases b with
    | zero => simp only [List.set_cons_zero, sumL_cons, List.getD_cons_zero]; omega
    | succ b =>
      simp only [List.set_cons_succ, sumL_cons, List.getD_cons_succ]
      rw [ih b (by simpa using hb)]; omega
theorem sumL_le (a b : List Int) (hl : a.length = b.length) (h : ∀ i, i < a.length → a.getD i 0 ≤ b.getD i 0) : sumL a ≤ sumL b ∧ (sumL a = sumL b → ∀ i, i < a.length → a.getD i 0 = b.getD i 0) := by
  induction a generalizing b with
  | nil => cases b with
    | nil => simp
    | cons y b => simp at hl
  | cons x a ih => cases b with
    | nil => simp at hl
    | cons y b =>
      have h0 := h 0 (by simp)
      simp only [List.getD_cons_zero] at h0
      obtain ⟨i1, i2⟩ := ih b (by simpa using hl) (fun i hi => by have := h (i + 1) (by simpa using hi); simpa using this)
      rw [sumL_cons, sumL_cons]
      refine ⟨by omega, fun e i hi => ?_⟩
      cases i with
      | zero => simp only [List.getD_cons_zero]; omega
      | succ i => simp only [List.getD_cons_succ]; exact i2 (by omega) i (by simpa using hi)

section
variable {ws least most out : List Int} (g : Good ws least most out)
include g
theorem best_ok (hs : sumL out < sumL most) : 0 ≤ bestTo ws most out ws.length ∧ (bestTo ws most out ws.length).toNat < ws.length := by
  have r := bestTo_rng ws most out ws.length
  by_cases h : bestTo ws most out ws.length < 0
  · have h1 := (bestTo_best g _ (Nat.le_refl _)).1 h
    exfalso
    have h2 := sumL_le most out (by rw [g.l2, g.l3]) (fun i hi => Int.not_lt.1 (h1 i (by rw [← g.l2]; exact hi)))
    omega
  · omega
theorem step_good (hs : sumL out < sumL most) : Good ws least most (stepA ws most out) ∧ sumL (stepA ws most out) = sumL out + 1 := by
  obtain ⟨b0, b1⟩ := best_ok g hs
  have h2 := ((bestTo_best g _ (Nat.le_refl _)).2 b0).1
  unfold stepA
  generalize (bestTo ws most out ws.length).toNat = b at *
  refine ⟨⟨g.l1, g.l2, by simp [g.l3], g.ws0, fun i hi => ?_, fun i hi => ?_⟩, sumL_set _ _ (by rw [g.l3]; exact b1)⟩
  · have := g.lo i hi
    rw [getD_set _ _ _ _ (by rw [g.l3]; exact b1)]
    split
    · next e => subst e; omega
    · exact this
  · have := g.hi i hi
    rw [getD_set _ _ _ _ (by rw [g.l3]; exact b1)]
    split
    · next e => subst e; omega
    · exact this
theorem step_fair (hs : sumL out < sumL most) (hf : Fair ws least most out) : Fair ws least most (stepA ws most out) := by
  obtain ⟨b0, b1⟩ := best_ok g hs
  obtain ⟨h2, h3⟩ := (bestTo_best g _ (Nat.le_refl _)).2 b0
  unfold stepA
  generalize (bestTo ws most out ws.length).toNat = b at *
  intro i k hi hk hl hr
  have nn : ∀ j, j < ws.length → 0 ≤ out.getD j 0 := fun j hj => by have := g.lo j hj; omega
  rw [getD_set _ _ _ _ (by rw [g.l3]; exact b1)] at hl hr ⊢
  rw [getD_set _ _ _ _ (by rw [g.l3]; exact b1)]
  have wk := g.ws0 k hk
  have wi := g.ws0 i hi
  have ni := nn i hi
  have nk := nn k hk
  by_cases ei : i = b
  · subst ei
    by_cases ek : k = i
    · subst ek
      simp only [if_true]
      exact Int.mul_le_mul_of_nonneg_left (by omega) wk.1
    · simp only [if_true, if_neg ek] at hl hr ⊢
      have := h3 k hk hr
      rw [show 2 * (out.getD i 0 + 1) - 1 = 2 * out.getD i 0 + 1 by omega]
      exact this
  · by_cases ek : k = b
    · subst ek
      simp only [if_true, if_neg ei] at hl hr ⊢
      have := hf i k hi hk hl h2
      have h5 := Int.mul_le_mul_of_nonneg_left (show 2 * out.getD k 0 + 1 ≤ 2 * (out.getD k 0 + 1) + 1 by omega) wi.1
      omega
    · simp only [if_neg ei, if_neg ek] at hl hr ⊢
      exact hf i k hi hk hl hr
end
theorem steps_good {ws least most : List Int} (g : Good ws least most least) : ∀ n : Nat, sumL least + n ≤ sumL most → Good ws least most (stepsA ws most least n) ∧ sumL (stepsA ws most least n) = sumL least + n ∧ Fair ws least most (stepsA ws most least n)
  | 0, _ => ⟨g, by simp [stepsA], fun i k _ _ h => by simp [stepsA] at h⟩
  | n + 1, h => by
    obtain ⟨g1, s1, f1⟩ := steps_good g n (by omega)
    obtain ⟨g2, s2⟩ := step_good g1 (by omega)
    exact ⟨g2, by simp only [stepsA]; rw [s2, s1]; omega, step_fair g1 (by omega) f1⟩
end Go.Proofs.Ytmgdeenjdoennaa
