/- What the searches over records compute: the completions of a record, the first one that passes, the lightest fields. Conditions: none; plain Lean. -/
import Derived.Test.YtambgcijceecpaaDoorE9
namespace Go.Proofs.YtambgcijceecpaaDoor
open Go.RowKit
set_option linter.unusedVariables false

theorem getD_set (x : List Int) (k i : Nat) (c : Int) : (x.set k c).getD i 0 = if i = k ∧ k < x.length then c else x.getD i 0 := by
  rw [List.getD_eq_getElem?_getD, List.getElem?_set, List.getD_eq_getElem?_getD]
  by_cases h : k = i
  · subst h
    by_cases h2 : k < x.length
    · simp [h2]
    · simp [h2, List.getElem?_eq_none (Nat.le_of_not_lt h2)]
  · rw [if_neg h, if_neg (fun e => h e.1.symm)]
theorem getD_set_ne {x : List Int} {k i : Nat} {c : Int} (h : i ≠ k) : (x.set k c).getD i 0 = x.getD i 0 := by rw [getD_set, if_neg (fun e => h e.1)]
theorem getD_set_eq {x : List Int} {k : Nat} {c : Int} (h : k < x.length) : (x.set k c).getD k 0 = c := by rw [getD_set, if_pos ⟨rfl, h⟩]
theorem ext_getD {x y : List Int} (hl : y.length = x.length) (h : ∀ i, i < x.length → y.getD i 0 = x.getD i 0) : y = x := by
  apply List.ext_getElem hl
  intro i h1 h2
  have := h i h2
  rwa [getD_elem0 _ _ _ h1, getD_elem0 _ _ _ h2] at this
/-- Which records are completions. -/
theorem mem_comps {fs : List Fld} {free : List Bool} : ∀ {r f : Nat} {x y : List Int}, f + r ≤ x.length →
    (y ∈ comps fs free r f x ↔ y.length = x.length ∧ ∀ i, i < x.length → if f ≤ i ∧ i < f + r ∧ free.getD i false = true then y.getD i 0 ∈ (fs.getD i fld0).2.1 else y.getD i 0 = x.getD i 0)
  | 0, f, x, y, h => by
    rw [comps, List.mem_singleton]
    constructor
    · rintro rfl
      exact ⟨rfl, fun i hi => by rw [if_neg (by omega)]⟩
    · rintro ⟨hl, hh⟩
      exact ext_getD hl (fun i hi => by have := hh i hi; rwa [if_neg (by omega)] at this)
  | r + 1, f, x, y, h => by
    rw [comps]
    split
    · next hf =>
      rw [List.mem_flatMap]
      constructor
      · rintro ⟨c, hc, hy⟩
        obtain ⟨hl, hh⟩ := (mem_comps (by rw [List.length_set]; omega)).1 hy
        rw [List.length_set] at hl hh
        refine ⟨hl, fun i hi => ?_⟩
        have := hh i hi
        by_cases e : i = f
        · subst e
          rw [if_neg (by omega), getD_set_eq hi] at this
          rw [if_pos ⟨Nat.le_refl _, by omega, hf⟩, this]
          exact hc
        · rw [getD_set_ne e] at this
          by_cases c1 : f + 1 ≤ i ∧ i < f + 1 + r ∧ free.getD i false = true
          · rw [if_pos c1] at this
            rw [if_pos ⟨by omega, by omega, c1.2.2⟩]; exact this
          · rw [if_neg c1] at this
            rw [if_neg (fun q => c1 ⟨by omega, by omega, q.2.2⟩)]; exact this
      · rintro ⟨hl, hh⟩
        have h0 := hh f (by omega)
        rw [if_pos ⟨Nat.le_refl _, by omega, hf⟩] at h0
        refine ⟨_, h0, (mem_comps (by rw [List.length_set]; omega)).2 ⟨by rw [List.length_set]; exact hl, fun i hi => ?_⟩⟩
        rw [List.length_set] at hi
        have := hh i hi
        by_cases e : i = f
        · subst e
          rw [if_neg (by omega), getD_set_eq hi]
        · rw [getD_set_ne e]
          by_cases c1 : f ≤ i ∧ i < f + (r + 1) ∧ free.getD i false = true
          · rw [if_pos c1] at this
            rw [if_pos ⟨by omega, by omega, c1.2.2⟩]; exact this
          · rw [if_neg c1] at this
            rw [if_neg (fun q => c1 ⟨by omega, by omega, q.2.2⟩)]; exact this
    · next hf =>
      rw [mem_comps (by omega)]
      constructor
      · rintro ⟨hl, hh⟩
        refine ⟨hl, fun i hi => ?_⟩
        have := hh i hi
        by_cases c1 : f + 1 ≤ i ∧ i < f + 1 + r ∧ free.getD i false = true
        · rw [if_pos c1] at this
          rw [if_pos ⟨by omega, by omega, c1.2.2⟩]; exact this
        · rw [if_neg c1] at this
          rw [if_neg (fun q => c1 ⟨by have : i ≠ f := (fun e => hf (e ▸ q.2.2)); omega, by omega, q.2.2⟩)]; exact this
      · rintro ⟨hl, hh⟩
        refine ⟨hl, fun i hi => ?_⟩
        have := hh i hi
        by_cases c1 : f ≤ i ∧ i < f + (r + 1) ∧ free.getD i false = true
        · rw [if_pos c1] at this
          rw [if_pos ⟨by have : i ≠ f := (fun e => hf (e ▸ c1.2.2)); omega, by omega, c1.2.2⟩]; exact this
        · rw [if_neg c1] at this
          rw [if_neg (fun q => c1 ⟨by omega, by omega, q.2.2⟩)]; exact this
/-- The free fields of a list of numbers. -/
def frB (n : Nat) (free : List Int) : List Bool := (List.range n).map (fun i : Nat => decide ((i : Int) ∈ free))
theorem frB_len (n : Nat) (free : List Int) : (frB n free).length = n := by unfold frB; simp
theorem frB_get {n : Nat} {free : List Int} {i : Nat} (h : i < n) : (frB n free).getD i false = decide ((i : Int) ∈ free) := by
  rw [getD_elem0 _ _ _ (by rw [frB_len]; exact h)]; unfold frB; simp
/-- The first record that passes. -/
def firstV (fs : List Fld) (es : List Edt) (n m : Nat) (x : List Int) (s : List Int) : List Int × Bool := if passB fs es x n m = true then (x, true) else (s, false)
def firstS (fs : List Fld) (es : List Edt) (n m : Nat) (rec free : List Int) : List Int × Bool := foldU (firstV fs es n m) (comps fs (frB n free) n 0 rec) []
theorem foldU_first {fs : List Fld} {es : List Edt} {n m : Nat} : ∀ (l : List (List Int)) (s : List Int), foldU (firstV fs es n m) l s = match l.find? (fun x => passB fs es x n m) with | some x => (x, true) | none => (s, false)
  | [], s => rfl
  | x :: l, s => by
    rw [foldU, List.find?_cons]
    by_cases h : passB fs es x n m = true
    · have e : firstV fs es n m x s = (x, true) := by rw [firstV, if_pos h]
      rw [e, h]; rfl
    · have e : firstV fs es n m x s = (s, false) := by rw [firstV, if_neg h]
      have h' : passB fs es x n m = false := by simpa using h
      rw [e, h', if_neg (by simp)]
      exact foldU_first l s
theorem firstS_some {fs : List Fld} {es : List Edt} {n m : Nat} {rec free : List Int} (h : (firstS fs es n m rec free).2 = true) : (firstS fs es n m rec free).1 ∈ comps fs (frB n free) n 0 rec ∧ passB fs es (firstS fs es n m rec free).1 n m = true := by
  unfold firstS at h ⊢
  rw [foldU_first] at h ⊢
  cases hf : (comps fs (frB n free) n 0 rec).find? (fun x => passB fs es x n m) with
  | none => rw [hf] at h; cases h
  | some x => exact ⟨List.mem_of_find?_eq_some hf, by have := List.find?_some hf; simpa using this⟩
theorem firstS_of {fs : List Fld} {es : List Edt} {n m : Nat} {rec free x : List Int} (hx : x ∈ comps fs (frB n free) n 0 rec) (hp : passB fs es x n m = true) : (firstS fs es n m rec free).2 = true := by
  unfold firstS
  rw [foldU_first]
  cases hf : (comps fs (frB n free) n 0 rec).find? (fun x => passB fs es x n m) with
  | none =>
    rw [List.find?_eq_none] at hf
    exact absurd hp (by simpa using hf x hx)
  | some y => rfl
/-- Fields in which two records differ. -/
def apL (a b : List Int) (k : Nat) : List Int := ((List.range k).filter (fun i : Nat => decide (a.getD i 0 ≠ b.getD i 0))).map (fun i : Nat => (i : Int))
theorem apL_t {a b : List Int} {k : Nat} (h : a.getD k 0 ≠ b.getD k 0) : apL a b (k + 1) = apL a b k ++ [(k : Int)] := by
  have e : List.filter (fun i : Nat => decide (a.getD i 0 ≠ b.getD i 0)) [k] = [k] := by rw [List.filter_cons_of_pos (by simpa using h)]; rfl
  unfold apL; rw [List.range_succ, List.filter_append, List.map_append, e]; rfl
theorem apL_f {a b : List Int} {k : Nat} (h : a.getD k 0 = b.getD k 0) : apL a b (k + 1) = apL a b k := by
  have e : List.filter (fun i : Nat => decide (a.getD i 0 ≠ b.getD i 0)) [k] = [] := by rw [List.filter_cons_of_neg (by simpa using h)]; rfl
  unfold apL; rw [List.range_succ, List.filter_append, List.map_append, e]; simp
theorem apL_len (a b : List Int) (k : Nat) : (apL a b k).length ≤ k := by
  unfold apL; rw [List.length_map]; exact Nat.le_trans (List.length_filter_le _ _) (by simp)
theorem mem_apL {a b : List Int} {k : Nat} {i : Int} : i ∈ apL a b k ↔ ∃ j : Nat, i = j ∧ j < k ∧ a.getD j 0 ≠ b.getD j 0 := by
  unfold apL
  rw [List.mem_map]
  constructor
  · rintro ⟨j, hj, rfl⟩
    rw [List.mem_filter, List.mem_range] at hj
    exact ⟨j, rfl, hj.1, by simpa using hj.2⟩
  · rintro ⟨j, rfl, h1, h2⟩
    exact ⟨j, by rw [List.mem_filter, List.mem_range]; exact ⟨h1, by simpa using h2⟩, rfl⟩
theorem apL_sorted (a b : List Int) (k : Nat) : (apL a b k).Pairwise (· < ·) := by
  unfold apL
  rw [List.pairwise_map]
  refine List.Pairwise.filter _ ?_
  refine List.Pairwise.imp ?_ (List.pairwise_lt_range (n := k))
  intro x y h
  exact Int.ofNat_lt.2 h
/-- The weight of fields. -/
def wOf (fs : List Fld) (k : Int) : Int := (fs.getD k.toNat fld0).2.2
def wSum (fs : List Fld) (l : List Int) : Int := (l.map (wOf fs)).sum
theorem wSum_snoc (fs : List Fld) (l : List Int) (k : Int) : wSum fs (l ++ [k]) = wSum fs l + wOf fs k := by
  unfold wSum; rw [List.map_append, List.sum_append]; simp
theorem wSum_bd {fs : List Fld} : ∀ {l : List Int}, (∀ k ∈ l, 0 ≤ wOf fs k ∧ wOf fs k ≤ 1000) → 0 ≤ wSum fs l ∧ wSum fs l ≤ 1000 * (l.length : Int)
  | [], _ => by simp [wSum]
  | k :: l, h => by
    have h1 := h k (by simp)
    have h2 := wSum_bd (l := l) (fun x hx => h x (by simp [hx]))
    have e : wSum fs (k :: l) = wOf fs k + wSum fs l := by unfold wSum; simp
    rw [e, List.length_cons]
    omega
theorem sum_erase (f : Int → Int) {x : Int} : ∀ {b : List Int}, x ∈ b → (b.map f).sum = f x + ((b.erase x).map f).sum
  | y :: b, h => by
    by_cases e : y = x
    · subst e; simp
    · have hb : x ∈ b := by rcases List.mem_cons.1 h with h | h; exact absurd h.symm e; exact h
      rw [List.erase_cons_tail (by simpa using e), List.map_cons, List.sum_cons, sum_erase f hb, List.map_cons, List.sum_cons]
      omega
theorem sum_le (f : Int → Int) : ∀ {a b : List Int}, a.Nodup → (∀ x ∈ a, x ∈ b) → (∀ x ∈ b, 0 ≤ f x) → (a.map f).sum ≤ (b.map f).sum
  | [], b, _, _, hb => by
    induction b with
    | nil => simp
    | cons y b ih =>
      have h1 := hb y (by simp)
      have h2 := ih (by simp) (fun x hx => hb x (by simp [hx]))
      simp only [List.map_nil, List.sum_nil, List.map_cons, List.sum_cons] at h2 ⊢
      omega
  | x :: a, b, hn, hs, hb => by
    rw [List.nodup_cons] at hn
    have hx := hs x (by simp)
    rw [sum_erase f hx, List.map_cons, List.sum_cons]
    have := sum_le f (a := a) (b := b.erase x) hn.2 (fun y hy => (List.mem_erase_of_ne (fun e => hn.1 (by rw [← e]; exact hy))).2 (hs y (by simp [hy]))) (fun y hy => hb y (List.mem_of_mem_erase hy))
    omega
theorem nodup_of_lt {l : List Int} (h : l.Pairwise (· < ·)) : l.Nodup := List.Pairwise.imp (fun h e => by omega) h
/-- The order of slices.Compare. -/
def cmpI : List Int → List Int → Int
  | [], [] => 0
  | [], _ :: _ => -1
  | _ :: _, [] => 1
  | x :: xs, y :: ys => if x < y then -1 else if y < x then 1 else cmpI xs ys
theorem cmpI_self : ∀ a, cmpI a a = 0
  | [] => rfl
  | x :: a => by rw [cmpI, if_neg (by omega), if_neg (by omega)]; exact cmpI_self a
theorem cmpI_eq : ∀ {a b}, cmpI a b = 0 → a = b
  | [], [], _ => rfl
  | [], _ :: _, h => by rw [cmpI] at h; cases h
  | _ :: _, [], h => by rw [cmpI] at h; cases h
  | x :: a, y :: b, h => by
    rw [cmpI] at h
    split at h
    · cases h
    · split at h
      · cases h
      · rw [cmpI_eq h, show x = y by omega]
theorem cmpI_swap : ∀ a b, cmpI b a = - cmpI a b
  | [], [] => rfl
  | [], _ :: _ => rfl
  | _ :: _, [] => rfl
  | x :: a, y :: b => by
    rw [cmpI, cmpI]
    by_cases h : x < y
    · rw [if_neg (by omega), if_pos h, if_pos h]; rfl
    · by_cases h2 : y < x
      · rw [if_pos h2, if_neg h, if_pos h2]
      · rw [if_neg h2, if_neg h, if_neg h, if_neg h2]; exact cmpI_swap a b
theorem cmpI_trans : ∀ {a b c}, cmpI a b < 0 → cmpI b c < 0 → cmpI a c < 0
  | [], [], _, h, _ => by rw [cmpI] at h; cases h
  | _ :: _, [], _, h, _ => by rw [cmpI] at h; cases h
  | _, _ :: _, [], _, h => by rw [cmpI] at h; cases h
  | [], _ :: _, _ :: _, _, _ => by rw [cmpI]; decide
  | x :: a, y :: b, z :: c, h, k => by
    rw [cmpI] at h k ⊢
    split at h
    · split at k
      · rw [if_pos (by omega)]; decide
      · split at k
        · cases k
        · rw [if_pos (by omega)]; decide
    · split at h
      · cases h
      · split at k
        · rw [if_pos (by omega)]; decide
        · split at k
          · cases k
          · rw [if_neg (by omega), if_neg (by omega)]; exact cmpI_trans h k
/-- A set of fields comes ahead of another one. -/
def ahead (fs : List Fld) (a b : List Int) : Bool :=
  decide (wSum fs a < wSum fs b) || (decide (wSum fs a = wSum fs b) && (decide (a.length < b.length) || (decide (a.length = b.length) && decide (cmpI a b < 0))))
theorem ahead_iff {fs : List Fld} {a b : List Int} : ahead fs a b = true ↔ wSum fs a < wSum fs b ∨ (wSum fs a = wSum fs b ∧ (a.length < b.length ∨ (a.length = b.length ∧ cmpI a b < 0))) := by
  unfold ahead; simp
theorem ahead_irrefl {fs : List Fld} {a : List Int} : ahead fs a a = false := by
  rw [Bool.eq_false_iff, Ne, ahead_iff, cmpI_self]; omega
theorem ahead_trans {fs : List Fld} {a b c : List Int} (h : ahead fs a b = true) (k : ahead fs b c = true) : ahead fs a c = true := by
  rw [ahead_iff] at h k ⊢
  rcases h with h | ⟨h1, h2 | ⟨h2, h3⟩⟩
  · rcases k with k | ⟨k1, _⟩ <;> exact .inl (by omega)
  · rcases k with k | ⟨k1, k2 | ⟨k2, k3⟩⟩
    · exact .inl (by omega)
    · exact .inr ⟨by omega, .inl (by omega)⟩
    · exact .inr ⟨by omega, .inl (by omega)⟩
  · rcases k with k | ⟨k1, k2 | ⟨k2, k3⟩⟩
    · exact .inl (by omega)
    · exact .inr ⟨by omega, .inl (by omega)⟩
    · exact .inr ⟨by omega, .inr ⟨by omega, cmpI_trans h3 k3⟩⟩
theorem ahead_total {fs : List Fld} {a b : List Int} (h : ahead fs a b = false) (k : ahead fs b a = false) : a = b := by
  rw [Bool.eq_false_iff, Ne, ahead_iff] at h k
  have h1 : wSum fs a = wSum fs b := by omega
  have h2 : a.length = b.length := by omega
  have h3 := cmpI_swap a b
  refine cmpI_eq ?_
  omega
abbrev LSt := List Int × Int × Bool
def leastV (fs : List Fld) (es : List Edt) (n m : Nat) (rec x : List Int) (s : LSt) : LSt × Bool :=
  (if ((!s.2.2) || (decide (wSum fs (apL rec x n) < s.2.1) || (decide (wSum fs (apL rec x n) = s.2.1) && (decide ((apL rec x n).length < s.1.length) || (decide ((apL rec x n).length = s.1.length) && decide (cmpI (apL rec x n) s.1 < 0)))))) = true ∧ (failL es x n m).length = 0 then (apL rec x n, wSum fs (apL rec x n), true) else s, false)
def leastS (fs : List Fld) (es : List Edt) (n m : Nat) (rec : List Int) : LSt × Bool := foldU (leastV fs es n m rec) (comps fs (List.replicate n true) n 0 (List.replicate n 0)) ([], 0, false)
structure LeastI (fs : List Fld) (es : List Edt) (n m : Nat) (rec : List Int) (l : List (List Int)) (s : LSt) : Prop where
  no : s.2.2 = false → ∀ x ∈ l, (failL es x n m).length ≠ 0
  yes : s.2.2 = true → s.2.1 = wSum fs s.1 ∧ (∃ x ∈ l, (failL es x n m).length = 0 ∧ s.1 = apL rec x n) ∧ ∀ x ∈ l, (failL es x n m).length = 0 → ahead fs (apL rec x n) s.1 = false
theorem LeastI.next {fs : List Fld} {es : List Edt} {n m : Nat} {rec : List Int} {l : List (List Int)} {s : LSt} (h : LeastI fs es n m rec l s) (x : List Int) : LeastI fs es n m rec (l ++ [x]) (leastV fs es n m rec x s).1 := by
  obtain ⟨b, w, fo⟩ := s
  unfold leastV
  dsimp only
  cases fo with
  | false =>
    by_cases hf : (failL es x n m).length = 0
    · rw [if_pos ⟨by simp, hf⟩]
      refine ⟨(fun h => by cases h), fun _ => ⟨rfl, ⟨x, by simp, hf, rfl⟩, fun y hy hyf => ?_⟩⟩
      rcases List.mem_append.1 hy with hy | hy
      · exact absurd hyf (h.no rfl y hy)
      · obtain rfl := List.mem_singleton.1 hy
        exact ahead_irrefl
    · rw [if_neg (fun q => hf q.2)]
      refine ⟨fun _ y hy => ?_, fun h => by cases h⟩
      rcases List.mem_append.1 hy with hy | hy
      · exact h.no rfl y hy
      · obtain rfl := List.mem_singleton.1 hy
        exact hf
  | true =>
    obtain ⟨h1, ⟨x0, m0, f0, e0⟩, h3⟩ := h.yes rfl
    dsimp only at h1 e0 h3
    subst h1
    have key : ((!true) || (decide (wSum fs (apL rec x n) < wSum fs b) || (decide (wSum fs (apL rec x n) = wSum fs b) && (decide ((apL rec x n).length < b.length) || (decide ((apL rec x n).length = b.length) && decide (cmpI (apL rec x n) b < 0)))))) = ahead fs (apL rec x n) b := by
      rw [ahead]; rfl
    rw [key]
    by_cases hc : ahead fs (apL rec x n) b = true ∧ (failL es x n m).length = 0
    · rw [if_pos hc]
      refine ⟨(fun h => by cases h), fun _ => ⟨rfl, ⟨x, by simp, hc.2, rfl⟩, fun y hy hyf => ?_⟩⟩
      rcases List.mem_append.1 hy with hy | hy
      · have := h3 y hy hyf
        cases hq : ahead fs (apL rec y n) (apL rec x n) with
        | false => rfl
        | true => rw [ahead_trans hq hc.1] at this; cases this
      · obtain rfl := List.mem_singleton.1 hy
        exact ahead_irrefl
    · rw [if_neg hc]
      refine ⟨(fun h => by cases h), fun _ => ⟨rfl, ⟨x0, by simp [m0], f0, e0⟩, fun y hy hyf => ?_⟩⟩
      rcases List.mem_append.1 hy with hy | hy
      · exact h3 y hy hyf
      · obtain rfl := List.mem_singleton.1 hy
        cases hq : ahead fs (apL rec y n) b with
        | false => rfl
        | true => exact absurd ⟨hq, hyf⟩ hc
theorem foldU_least {fs : List Fld} {es : List Edt} {n m : Nat} {rec : List Int} : ∀ (l l0 : List (List Int)) (s : LSt), LeastI fs es n m rec l0 s → LeastI fs es n m rec (l0 ++ l) (foldU (leastV fs es n m rec) l s).1 ∧ (foldU (leastV fs es n m rec) l s).2 = false
  | [], l0, s, h => ⟨by rw [List.append_nil]; exact h, rfl⟩
  | x :: l, l0, s, h => by
    have h1 := foldU_least l (l0 ++ [x]) _ (h.next x)
    rw [List.append_assoc] at h1
    rw [foldU, if_neg (by unfold leastV; simp)]
    exact h1
theorem leastS_inv (fs : List Fld) (es : List Edt) (n m : Nat) (rec : List Int) : LeastI fs es n m rec (comps fs (List.replicate n true) n 0 (List.replicate n 0)) (leastS fs es n m rec).1 := by
  have := (foldU_least (fs := fs) (es := es) (n := n) (m := m) (rec := rec) (comps fs (List.replicate n true) n 0 (List.replicate n 0)) [] ([], 0, false) ⟨fun _ x hx => by simp at hx, fun h => by cases h⟩).1
  simpa [leastS] using this
/-- All records with valid values. -/
theorem mem_all {fs : List Fld} {n : Nat} {y : List Int} : y ∈ comps fs (List.replicate n true) n 0 (List.replicate n 0) ↔ y.length = n ∧ validB fs y n = true := by
  rw [mem_comps (by simp), List.length_replicate]
  constructor
  · rintro ⟨h1, h2⟩
    refine ⟨h1, validB_true (fun i hi => ?_)⟩
    have := h2 i hi
    rw [if_pos ⟨by omega, by omega, by simp [List.getD_eq_getElem?_getD, List.getElem?_replicate, hi]⟩] at this
    exact this
  · rintro ⟨h1, h2⟩
    refine ⟨h1, fun i hi => ?_⟩
    rw [if_pos ⟨by omega, by omega, by simp [List.getD_eq_getElem?_getD, List.getElem?_replicate, hi]⟩]
    unfold validB at h2
    rw [List.all_eq_true] at h2
    exact of_decide_eq_true (h2 i (List.mem_range.2 hi))
theorem mem_first {fs : List Fld} {n : Nat} {rec free y : List Int} (hr : rec.length = n) : y ∈ comps fs (frB n free) n 0 rec ↔ y.length = n ∧ ∀ i, i < n → if (i : Int) ∈ free then y.getD i 0 ∈ (fs.getD i fld0).2.1 else y.getD i 0 = rec.getD i 0 := by
  rw [mem_comps (by omega), hr]
  constructor
  · rintro ⟨h1, h2⟩
    refine ⟨h1, fun i hi => ?_⟩
    have := h2 i hi
    rw [frB_get hi] at this
    by_cases h : (i : Int) ∈ free
    · rw [if_pos h]; rw [if_pos ⟨by omega, by omega, by simpa using h⟩] at this; exact this
    · rw [if_neg h]; rw [if_neg (fun q => h (by simpa using q.2.2))] at this; exact this
  · rintro ⟨h1, h2⟩
    refine ⟨h1, fun i hi => ?_⟩
    have := h2 i hi
    rw [frB_get hi]
    by_cases h : (i : Int) ∈ free
    · rw [if_pos h] at this; rw [if_pos ⟨by omega, by omega, by simpa using h⟩]; exact this
    · rw [if_neg h] at this; rw [if_neg (fun q => h (by simpa using q.2.2))]; exact this
/-- The fault of a list of free fields. -/
def freeBad (n : Nat) (free : List Int) (k : Nat) : Int := if outB (free.getD k 0) 0 ((n : Int) - 1) = true then 1 else if 0 < k ∧ free.getD k 0 ≤ free.getD (k - 1) 0 then 7 else 0
def freeF (n : Nat) (free : List Int) : Int := scan (freeBad n free) free.length
theorem freeF_zero {n : Nat} {free : List Int} (h : freeF n free = 0) : (∀ k ∈ free, 0 ≤ k ∧ k < n) := by
  intro k hk
  obtain ⟨i, hi, rfl⟩ := List.getElem_of_mem hk
  have := scan_all _ h i hi
  unfold freeBad at this
  rw [getD_elem0 _ _ _ hi] at this
  split at this
  · cases this
  · next h1 =>
    have := outB_false.1 (by simpa using h1 : outB free[i] 0 ((n : Int) - 1) = false)
    omega
theorem freeF_ok {n : Nat} {free : List Int} (h1 : ∀ k ∈ free, 0 ≤ k ∧ k < n) (h2 : free.Pairwise (· < ·)) : freeF n free = 0 := by
  refine scan_zero _ _ (fun i hi => ?_)
  unfold freeBad
  have hm := h1 free[i] (List.getElem_mem _)
  rw [getD_elem0 _ _ _ hi, if_neg (by rw [outB_false.2 (by omega)]; simp), if_neg]
  rintro ⟨hp, hle⟩
  rw [getD_elem0 _ _ _ (by omega)] at hle
  have := List.pairwise_iff_getElem.1 h2 (i - 1) i (by omega) hi (by omega)
  omega
theorem cods {fs : List Fld} {es : List Edt} {n m : Nat} (h : PlOk fs es n m) {i : Nat} (hi : i < n) {c : Int} (hc : c ∈ (fs.getD i fld0).2.1) : 1 ≤ c ∧ c ≤ 999 := by
  have h1 := (fieldF_zero (fldBad_zero (h.fld i hi)).2.2).2.2.1
  obtain ⟨j, hj, rfl⟩ := List.getElem_of_mem hc
  have := h1 j hj
  unfold codeBad at this
  rw [getD_elem0 _ _ _ hj] at this
  split at this
  · cases this
  · next h1 => exact outB_false.1 (by simpa using h1)
theorem wts {fs : List Fld} {es : List Edt} {n m : Nat} (h : PlOk fs es n m) {k : Int} (h0 : 0 ≤ k) (hk : k < n) : 1 ≤ wOf fs k ∧ wOf fs k ≤ 1000 := by
  exact outB_false.1 (fieldF_zero (fldBad_zero (h.fld k.toNat (by omega))).2.2).2.2.2
theorem valid_at {fs : List Fld} {rec : List Int} {n : Nat} (h : validB fs rec n = true) {i : Nat} (hi : i < n) : rec.getD i 0 ∈ (fs.getD i fld0).2.1 := by
  unfold validB at h
  rw [List.all_eq_true] at h
  exact of_decide_eq_true (h i (List.mem_range.2 hi))
theorem recF_valid {fs : List Fld} {es : List Edt} {n m : Nat} (h : PlOk fs es n m) {x : List Int} (hl : x.length = n) (hv : validB fs x n = true) : recF n x = 0 := by
  rw [recF, if_neg (by omega), hl]
  refine scan_zero _ _ (fun i hi => ?_)
  have := cods h hi (valid_at hv hi)
  rw [recBad, if_neg (by rw [outB_false.2 (by omega)]; simp)]
theorem pass_parts {fs : List Fld} {es : List Edt} {x : List Int} {n m : Nat} : passB fs es x n m = true ↔ validB fs x n = true ∧ (failL es x n m).length = 0 := by
  unfold passB; rw [Bool.and_eq_true, decide_eq_true_iff]
/-- The fields of Least are enough, and none that weigh less are. -/
theorem least_law {fs : List Fld} {es : List Edt} {n m : Nat} (h : PlOk fs es n m) {rec : List Int} (hr : rec.length = n) {l : List Int} {lw : Int} (hs : (leastS fs es n m rec).1 = (l, lw, true)) :
    freeF n l = 0 ∧ (firstS fs es n m rec l).2 = true ∧ recF n (firstS fs es n m rec l).1 = 0 ∧ (firstS fs es n m rec l).1.length = n ∧ passB fs es (firstS fs es n m rec l).1 n m = true ∧
    ∀ o, freeF n o = 0 → (firstS fs es n m rec o).2 = true → wSum fs l ≤ wSum fs o := by
  have hI := leastS_inv fs es n m rec
  rw [hs] at hI
  obtain ⟨h1, ⟨x, hx, hf, he⟩, h3⟩ := hI.yes rfl
  dsimp only at h1 he h3
  obtain ⟨hxl, hxv⟩ := mem_all.1 hx
  have hmem : x ∈ comps fs (frB n l) n 0 rec := (mem_first hr).2 ⟨hxl, fun i hi => by
    by_cases hi2 : (i : Int) ∈ l
    · rw [if_pos hi2]; exact valid_at hxv hi
    · rw [if_neg hi2]
      rw [he, mem_apL] at hi2
      by_cases e : x.getD i 0 = rec.getD i 0
      · exact e
      · exact absurd ⟨i, rfl, hi, fun e2 => e e2.symm⟩ hi2⟩
  have hfl : freeF n l = 0 := by
    rw [he]
    refine freeF_ok (fun k hk => ?_) (apL_sorted _ _ _)
    obtain ⟨j, rfl, hj, _⟩ := mem_apL.1 hk
    omega
  have hfs := firstS_of hmem (pass_parts.2 ⟨hxv, hf⟩)
  obtain ⟨g1, g2⟩ := firstS_some hfs
  have g3 := ((mem_first hr).1 g1).1
  refine ⟨hfl, hfs, recF_valid h g3 (pass_parts.1 g2).1, g3, g2, fun o ho hos => ?_⟩
  obtain ⟨k1, k2⟩ := firstS_some hos
  obtain ⟨k3, k4⟩ := (mem_first hr).1 k1
  obtain ⟨k5, k6⟩ := pass_parts.1 k2
  have k7 := h3 _ (mem_all.2 ⟨k3, k5⟩) k6
  have k8 : wSum fs (apL rec (firstS fs es n m rec o).1 n) ≤ wSum fs o := by
    refine sum_le _ (nodup_of_lt (apL_sorted _ _ _)) (fun k hk => ?_) (fun k hk => ?_)
    · obtain ⟨j, rfl, hj, hne⟩ := mem_apL.1 hk
      have := k4 j hj
      by_cases hjo : (j : Int) ∈ o
      · exact hjo
      · rw [if_neg hjo] at this; exact absurd this.symm hne
    · have := freeF_zero ho k hk
      have := wts h this.1 this.2
      omega
  rw [Bool.eq_false_iff, Ne, ahead_iff] at k7
  omega
end Go.Proofs.YtambgcijceecpaaDoor
