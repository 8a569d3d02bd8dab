/- Plain law of frames of codes: places of codes, chains of parents, levels. No program in sight. -/
import Derived.Test.YtapkkplndhbapaaDoorK2
namespace Go.Proofs.YtapkkplndhbapaaDoor
set_option linter.unusedVariables false

/-- The place of a code among the first k. -/
def ixTo (l : List Nod) (c : Int) : Nat → Option Nat
  | 0 => none
  | k + 1 => if cod l k = c then some k else ixTo l c k
def ix (l : List Nod) (c : Int) : Option Nat := ixTo l c l.length
def atV (l : List Nod) (c : Int) : Nat := (ix l c).getD 0
def parC (l : List Nod) (c : Int) : Int := par0 l (atV l c)
/-- The number of steps up to 0, if it is at most f. -/
def lvA (l : List Nod) : Nat → Int → Option Nat
  | 0, c => if c = 0 then some 0 else none
  | f + 1, c => if c = 0 then some 0 else (lvA l f (parC l c)).map (· + 1)
def lvl (l : List Nod) (c : Int) : Nat := (lvA l l.length c).getD 0
/-- A code and those above it. -/
def upA (l : List Nod) : Nat → Int → List Int
  | 0, _ => []
  | f + 1, c => c :: upA l f (parC l c)
def upL (l : List Nod) (c : Int) : List Int := upA l (lvl l c) c
def par5 (l : List Nod) (i : Nat) : Int := if par0 l i ≠ 0 ∧ ix l (par0 l i) = none then 5 else 0
def cyc18 (l : List Nod) (i : Nat) : Int := if lvA l l.length (cod l i) = none then 18 else 0
def deep2 (l : List Nod) (i : Nat) : Int := if 8 < lvl l (cod l i) then 2 else 0
noncomputable def treeF (l : List Nod) : Int :=
  if nodesF l ≠ 0 then nodesF l
  else if scan (par5 l) l.length ≠ 0 then 5
  else if scan (cyc18 l) l.length ≠ 0 then 18
  else if scan (deep2 l) l.length ≠ 0 then 2 else 0

theorem ixTo_some {l : List Nod} {c : Int} {i : Nat} : ∀ {k}, ixTo l c k = some i → i < k ∧ cod l i = c
  | 0, h => by simp [ixTo] at h
  | k + 1, h => by
    unfold ixTo at h
    split at h
    · next e => cases h; exact ⟨by omega, e⟩
    · have := ixTo_some h; exact ⟨by omega, this.2⟩
theorem ixTo_none {l : List Nod} {c : Int} : ∀ {k}, ixTo l c k = none → ∀ i, i < k → cod l i ≠ c
  | 0, _, i, hi => by omega
  | k + 1, h, i, hi => by
    unfold ixTo at h
    split at h
    · cases h
    · next e =>
      by_cases hik : i = k
      · subst hik; exact e
      · exact ixTo_none h i (by omega)
theorem ixTo_of {l : List Nod} {c : Int} {i k : Nat} (hu : ∀ i j, i < k → j < k → cod l i = cod l j → i = j) (hi : i < k) (hc : cod l i = c) : ixTo l c k = some i := by
  cases h : ixTo l c k with
  | none => exact absurd hc (ixTo_none h i hi)
  | some j =>
    obtain ⟨h1, h2⟩ := ixTo_some h
    rw [hu i j hi h1 (hc.trans h2.symm)]

theorem lvA_zero (l : List Nod) (f : Nat) : lvA l f 0 = some 0 := by cases f <;> simp [lvA]
theorem lvA_mono {l : List Nod} : ∀ {f : Nat} {c : Int} {k : Nat}, lvA l f c = some k → ∀ f', k ≤ f' → lvA l f' c = some k
  | 0, c, k, h, f', hk => by
    unfold lvA at h
    split at h
    · next e => subst e; cases h; exact lvA_zero l f'
    · cases h
  | f + 1, c, k, h, f', hk => by
    unfold lvA at h
    split at h
    · next e => subst e; cases h; exact lvA_zero l f'
    · next e =>
      cases hp : lvA l f (parC l c) with
      | none => rw [hp] at h; cases h
      | some j =>
        rw [hp] at h
        have h2 : j + 1 = k := by simpa using h
        subst h2
        cases f' with
        | zero => omega
        | succ f' => rw [lvA, if_neg e, lvA_mono hp f' (by omega)]; rfl
theorem lvA_le {l : List Nod} : ∀ {f : Nat} {c : Int} {k : Nat}, lvA l f c = some k → k ≤ f
  | 0, c, k, h => by
    unfold lvA at h
    split at h
    · cases h; exact Nat.le_refl _
    · cases h
  | f + 1, c, k, h => by
    unfold lvA at h
    split at h
    · cases h; exact Nat.zero_le _
    · cases hp : lvA l f (parC l c) with
      | none => rw [hp] at h; cases h
      | some j =>
        have h1 := lvA_le hp
        rw [hp] at h
        have h2 : j + 1 = k := by simpa using h
        omega
theorem lvA_step {l : List Nod} {f : Nat} {c : Int} {k : Nat} (h : lvA l f c = some (k + 1)) : c ≠ 0 ∧ lvA l f (parC l c) = some k := by
  cases f with
  | zero => unfold lvA at h; split at h <;> cases h
  | succ f =>
    have h0 := h
    unfold lvA at h
    split at h
    · cases h
    · next e =>
      refine ⟨e, ?_⟩
      cases hp : lvA l f (parC l c) with
      | none => rw [hp] at h; cases h
      | some j =>
        rw [hp] at h
        have h2 : j = k := by simpa using h
        have h1 := lvA_le hp
        subst h2
        exact lvA_mono hp (f + 1) (by omega)
theorem lvA_pos {l : List Nod} {f : Nat} {c : Int} {k : Nat} (h : lvA l f c = some k) (hc : c ≠ 0) : ∃ j, k = j + 1 := by
  cases k with
  | zero =>
    exfalso
    cases f with
    | zero => unfold lvA at h; rw [if_neg hc] at h; cases h
    | succ f =>
      unfold lvA at h
      rw [if_neg hc] at h
      cases hp : lvA l f (parC l c) with
      | none => rw [hp] at h; cases h
      | some j => rw [hp] at h; cases h
  | succ j => exact ⟨j, rfl⟩

/-- A frame that is right. -/
structure FrOk (l : List Nod) (n : Nat) : Prop where
  len : l.length = n
  pos : 0 < n ∧ n ≤ 600
  rng : ∀ i, i < n → 1 ≤ cod l i ∧ cod l i ≤ 999
  inc : ∀ i, 0 < i → i < n → cod l (i - 1) < cod l i
  tit : ∀ i, i < n → (tit l i).size ≤ 60 ∧ titleB (tit l i) = true
/-- .. and its parents. -/
structure TrOk (l : List Nod) (n : Nat) : Prop extends FrOk l n where
  par : ∀ i, i < n → par0 l i ≠ 0 → (ix l (par0 l i)).isSome = true
  lev : ∀ i, i < n → ∃ k, lvA l n (cod l i) = some k ∧ k ≤ 8
theorem nodesF_zero {l : List Nod} (h : nodesF l = 0) : FrOk l l.length := by
  unfold nodesF at h
  split at h
  · cases h
  · next h0 =>
    split at h
    · cases h
    · next h6 =>
      have key : ∀ i, i < l.length → (1 ≤ cod l i ∧ cod l i ≤ 999) ∧ (0 < i → cod l (i - 1) < cod l i) ∧ (tit l i).size ≤ 60 ∧ titleB (tit l i) = true := by
        intro i hi
        have hz := scan_all _ h i hi
        unfold nodeBad at hz
        split at hz
        · cases hz
        · next a =>
          split at hz
          · cases hz
          · next b =>
            split at hz
            · cases hz
            · next c =>
              split at hz
              · cases hz
              · next d =>
                have a' : outB (cod l i) 1 999 = false := by
                  cases hh : outB (cod l i) 1 999
                  · rfl
                  · exact absurd hh a
                have d' : titleB (tit l i) = true := by
                  cases hh : titleB (tit l i)
                  · exact absurd hh d
                  · rfl
                refine ⟨outB_false.1 a', fun h1 => ?_, Nat.not_lt.1 c, d'⟩
                have := fun h2 => b ⟨h1, h2⟩
                exact Int.not_le.1 this
      exact ⟨rfl, by omega, fun i hi => (key i hi).1, fun i h1 h2 => (key i h2).2.1 h1, fun i hi => (key i hi).2.2⟩
theorem FrOk.lt {l : List Nod} {n : Nat} (h : FrOk l n) {i j : Nat} (hij : i < j) (hj : j < n) : cod l i < cod l j := by
  obtain ⟨d, rfl⟩ : ∃ d, j = i + 1 + d := ⟨j - (i + 1), by omega⟩
  induction d with
  | zero => have := h.inc (i + 1) (by omega) hj; simpa using this
  | succ d ih =>
    have h1 := ih (by omega) (by omega)
    have h2 := h.inc (i + 1 + (d + 1)) (by omega) hj
    have : i + 1 + (d + 1) - 1 = i + 1 + d := by omega
    rw [this] at h2
    omega
theorem FrOk.inj {l : List Nod} {n : Nat} (h : FrOk l n) (i j : Nat) (hi : i < n) (hj : j < n) (e : cod l i = cod l j) : i = j := by
  rcases Nat.lt_trichotomy i j with hl | hl | hl
  · have := h.lt hl hj; omega
  · exact hl
  · have := h.lt hl hi; omega
theorem FrOk.ix_of {l : List Nod} {n : Nat} (h : FrOk l n) {i : Nat} (hi : i < n) : ix l (cod l i) = some i := by
  unfold ix
  rw [h.len]
  exact ixTo_of (fun a b ha hb e => h.inj a b ha hb e) hi rfl
theorem FrOk.at_of {l : List Nod} {n : Nat} (h : FrOk l n) {i : Nat} (hi : i < n) : atV l (cod l i) = i := by rw [atV, h.ix_of hi]; rfl
theorem FrOk.ix_some {l : List Nod} {n : Nat} (h : FrOk l n) {c : Int} {i : Nat} (hx : ix l c = some i) : i < n ∧ cod l i = c := by
  unfold ix at hx
  rw [h.len] at hx
  exact ixTo_some hx
theorem TrOk.up {l : List Nod} {n : Nat} (h : TrOk l n) {c : Int} (hc : (ix l c).isSome = true) : ∃ i, i < n ∧ cod l i = c ∧ atV l c = i ∧ parC l c = par0 l i ∧ (parC l c = 0 ∨ (ix l (parC l c)).isSome = true) := by
  obtain ⟨i, hi⟩ := Option.isSome_iff_exists.1 hc
  obtain ⟨h1, h2⟩ := h.ix_some hi
  have h3 : atV l c = i := by rw [atV, hi]; rfl
  refine ⟨i, h1, h2, h3, by rw [parC, h3], ?_⟩
  by_cases hp : parC l c = 0
  · exact .inl hp
  · rw [parC, h3] at hp ⊢
    exact .inr (h.par i h1 hp)
theorem upA_length (l : List Nod) : ∀ (m : Nat) (c : Int), (upA l m c).length = m
  | 0, c => rfl
  | m + 1, c => by rw [upA, List.length_cons, upA_length l m]
end Go.Proofs.YtapkkplndhbapaaDoor
