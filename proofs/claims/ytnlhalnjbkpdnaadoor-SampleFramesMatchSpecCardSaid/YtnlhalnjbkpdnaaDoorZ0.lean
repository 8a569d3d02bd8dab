/- Rising lists: the members of a list, once each, in order. Conditions: none; no program in sight. -/
import Derived.Test.YtnlhalnjbkpdnaaDoorMem
import Derived.Lib.SlicesCompact
namespace Go.Proofs.YtnlhalnjbkpdnaaDoor
set_option linter.unusedVariables false
set_option linter.unusedSimpArgs false
section
variable {α : Type} [DecidableEq α] (lt : α → α → Bool)
def insR (x : α) : List α → List α
  | [] => [x]
  | y :: l => if x = y then y :: l else if lt x y = true then x :: y :: l else y :: insR x l
def risL (l : List α) : List α := l.foldr (insR lt) []
variable {lt}
theorem mem_insR {x z : α} : ∀ {l : List α}, z ∈ insR lt x l ↔ z = x ∨ z ∈ l
  | [] => by simp [insR]
  | y :: l => by
    unfold insR
    split
    · next h => subst h; simp
    · split
      · simp
      · rw [List.mem_cons, mem_insR, List.mem_cons]
        exact ⟨fun h => by rcases h with h | h | h <;> simp [h], fun h => by rcases h with h | h | h <;> simp [h]⟩
theorem mem_risL {z : α} : ∀ {l : List α}, z ∈ risL lt l ↔ z ∈ l
  | [] => by simp [risL]
  | y :: l => by
    show z ∈ insR lt y (risL lt l) ↔ _
    rw [mem_insR, mem_risL, List.mem_cons]
theorem pw_insR (ht : ∀ x y z, lt x y = true → lt y z = true → lt x z = true) (h3 : ∀ x y, x ≠ y → lt x y = false → lt y x = true) {x : α} : ∀ {l : List α}, l.Pairwise (fun a b => lt a b = true) → (insR lt x l).Pairwise (fun a b => lt a b = true)
  | [], _ => by simp [insR]
  | y :: l, h => by
    rw [List.pairwise_cons] at h
    unfold insR
    split
    · exact List.pairwise_cons.2 h
    · next hne =>
      split
      · next hlt => exact List.pairwise_cons.2 ⟨fun z hz => by rcases List.mem_cons.1 hz with rfl | hz; exact hlt; exact ht _ _ _ hlt (h.1 z hz), List.pairwise_cons.2 h⟩
      · next hlt =>
        refine List.pairwise_cons.2 ⟨fun z hz => ?_, pw_insR ht h3 h.2⟩
        rcases mem_insR.1 hz with rfl | hz
        · exact h3 _ _ hne (by simpa using hlt)
        · exact h.1 z hz
theorem pw_risL (ht : ∀ x y z, lt x y = true → lt y z = true → lt x z = true) (h3 : ∀ x y, x ≠ y → lt x y = false → lt y x = true) : ∀ {l : List α}, (risL lt l).Pairwise (fun a b => lt a b = true)
  | [] => List.Pairwise.nil
  | y :: l => pw_insR ht h3 (pw_risL ht h3)
end
/-- Two lists that rise and have the same members are one. -/
theorem risen_eq {α : Type} {r : α → α → Prop} (ha : ∀ x y, r x y → ¬ r y x) : ∀ {l l' : List α}, l.Pairwise r → l'.Pairwise r → (∀ x, x ∈ l ↔ x ∈ l') → l = l'
  | [], [], _, _, _ => rfl
  | [], y :: l', _, _, h => by have := (h y).2 (by simp); simp at this
  | x :: l, [], _, _, h => by have := (h x).1 (by simp); simp at this
  | x :: l, y :: l', h1, h2, h => by
    rw [List.pairwise_cons] at h1 h2
    have hir : ∀ z, ¬ r z z := fun z hz => ha z z hz hz
    have hxy : x = y := by
      rcases List.mem_cons.1 ((h x).1 (by simp)) with e | e
      · exact e
      · rcases List.mem_cons.1 ((h y).2 (by simp)) with e' | e'
        · exact e'.symm
        · exact absurd (h2.1 x e) (ha _ _ (h1.1 y e'))
    subst hxy
    congr 1
    refine risen_eq ha h1.2 h2.2 (fun z => ⟨fun hz => ?_, fun hz => ?_⟩)
    · rcases List.mem_cons.1 ((h z).1 (by simp [hz])) with e | e
      · subst e; exact absurd (h1.1 z hz) (hir z)
      · exact e
    · rcases List.mem_cons.1 ((h z).2 (by simp [hz])) with e | e
      · subst e; exact absurd (h2.1 z hz) (hir z)
      · exact e
/-- What is left of a sorted list without its repetitions. -/
theorem upTo_succ {α : Type} [Inhabited α] [DecidableEq α] (d : Array α) (m : Nat) : Lib.compactUpTo d (m + 1) = Lib.compactUpTo d m ++ if Lib.keeps d m = true then [d[m]!] else [] := by
  unfold Lib.compactUpTo
  rw [List.range_succ, List.filter_append, List.map_append]
  congr 1
  by_cases h : Lib.keeps d m = true <;> simp [h]
theorem compact_rise {α : Type} [Inhabited α] [DecidableEq α] {lt : α → α → Bool} (h3 : ∀ x y, x ≠ y → lt x y = false → lt y x = true) {zs : List α} (hs : zs.Pairwise (fun a b => lt b a = false)) : (Lib.compact zs).Pairwise (fun a b => lt a b = true) ∧ ∀ x, x ∈ Lib.compact zs ↔ x ∈ zs := by
  have hp : ∀ i j, i < j → j < zs.length → lt (zs.toArray[j]!) (zs.toArray[i]!) = false := by
    intro i j hij hj
    rw [List.pairwise_iff_getElem] at hs
    have := hs i j (by omega) hj hij
    rw [getElem!_pos zs.toArray i (by simp; omega), getElem!_pos zs.toArray j (by simpa using hj)]
    simpa using this
  have key : ∀ m, m ≤ zs.length → (Lib.compactUpTo zs.toArray m).Pairwise (fun a b => lt a b = true) ∧ ∀ x, x ∈ Lib.compactUpTo zs.toArray m ↔ ∃ i, i < m ∧ zs.toArray[i]! = x := by
    intro m
    induction m with
    | zero => intro _; exact ⟨by simp [Lib.compactUpTo], fun x => by simp [Lib.compactUpTo]⟩
    | succ m ih =>
      intro hm
      obtain ⟨i1, i2⟩ := ih (by omega)
      rw [upTo_succ]
      by_cases hk : Lib.keeps zs.toArray m = true
      · rw [if_pos hk]
        refine ⟨List.pairwise_append.2 ⟨i1, by simp, fun a ha b hb => ?_⟩, fun x => ?_⟩
        · obtain ⟨i, hi, rfl⟩ := (i2 a).1 ha
          simp only [List.mem_singleton] at hb
          subst hb
          have hne : zs.toArray[m]! ≠ zs.toArray[i]! := by
            intro e
            unfold Lib.keeps at hk
            rw [decide_eq_true_iff] at hk
            rcases hk with h0 | h0
            · omega
            · by_cases him : i = m - 1
              · exact h0 (by rw [e, him])
              · have h1 := hp i (m - 1) (by omega) (by omega)
                have h2 := hp (m - 1) m (by omega) (by omega)
                rw [e] at h2
                exact h0 (Classical.byContradiction (fun q => by
                  rw [e] at q
                  have := h3 _ _ q h2
                  rw [h1] at this; cases this))
          exact h3 _ _ hne (hp i m hi (by omega))
        · rw [List.mem_append, i2, List.mem_singleton]
          refine ⟨fun h => ?_, fun ⟨i, hi, e⟩ => ?_⟩
          · rcases h with ⟨i, hi, e⟩ | h
            · exact ⟨i, by omega, e⟩
            · exact ⟨m, by omega, h.symm⟩
          · by_cases him : i = m
            · subst him; exact .inr e.symm
            · exact .inl ⟨i, by omega, e⟩
      · rw [if_neg hk, List.append_nil]
        refine ⟨i1, fun x => ?_⟩
        rw [i2]
        refine ⟨fun ⟨i, hi, e⟩ => ⟨i, by omega, e⟩, fun ⟨i, hi, e⟩ => ?_⟩
        by_cases him : i = m
        · subst him
          unfold Lib.keeps at hk
          rw [decide_eq_true_iff] at hk
          have h0 : i ≠ 0 := fun q => hk (.inl q)
          have h1 : zs.toArray[i]! = zs.toArray[i - 1]! := Classical.byContradiction (fun q => hk (.inr q))
          exact ⟨i - 1, by omega, by rw [← h1, e]⟩
        · exact ⟨i, by omega, e⟩
  obtain ⟨k1, k2⟩ := key zs.length (Nat.le_refl _)
  refine ⟨k1, fun x => ?_⟩
  show x ∈ Lib.compactUpTo zs.toArray zs.length ↔ _
  rw [k2]
  constructor
  · rintro ⟨i, hi, rfl⟩
    rw [getElem!_pos zs.toArray i (by simpa using hi)]
    simp
  · intro hx
    obtain ⟨i, hi, e⟩ := List.getElem_of_mem hx
    exact ⟨i, hi, by rw [getElem!_pos zs.toArray i (by simpa using hi)]; simpa using e⟩
/-- Numbers. -/
def ltI (a b : Int) : Bool := decide (a < b)
theorem ltI_trans (x y z : Int) (h1 : ltI x y = true) (h2 : ltI y z = true) : ltI x z = true := by unfold ltI at *; simp at *; omega
theorem ltI_tri (x y : Int) (h : x ≠ y) (h1 : ltI x y = false) : ltI y x = true := by unfold ltI at *; simp at *; omega
def risI (l : List Int) : List Int := risL ltI l
theorem risI_pw (l : List Int) : (risI l).Pairwise (· < ·) := (pw_risL (lt := ltI) ltI_trans ltI_tri (l := l)).imp (fun {a b} h => by unfold ltI at h; simpa using h)
theorem mem_risI {l : List Int} {x : Int} : x ∈ risI l ↔ x ∈ l := mem_risL
theorem risI_eq {L l : List Int} (h : L.Pairwise (· < ·)) (hm : ∀ x, x ∈ L ↔ x ∈ l) : L = risI l := risen_eq (r := (· < ·)) (fun x y a b => by omega) h (risI_pw l) (fun x => by rw [hm, mem_risI])
/-- Texts, by their bytes. -/
def ltT (a b : List UInt8) : Bool := decide (a < b)
theorem ltT_trans (x y z : List UInt8) (h1 : ltT x y = true) (h2 : ltT y z = true) : ltT x z = true := by
  unfold ltT at *
  rw [decide_eq_true_iff] at *
  exact List.lt_trans h1 h2
theorem ltT_asymm (x y : List UInt8) (h1 : ltT x y = true) : ltT y x = false := by
  unfold ltT at *
  rw [decide_eq_true_iff] at h1
  rw [decide_eq_false_iff_not]
  exact List.lt_asymm h1
theorem ltT_tri (x y : List UInt8) (h : x ≠ y) (h1 : ltT x y = false) : ltT y x = true := by
  unfold ltT at *
  rw [decide_eq_false_iff_not] at h1
  rw [decide_eq_true_iff]
  have h2 : y ≤ x := h1
  exact Classical.byContradiction (fun q => h (List.le_antisymm (show x ≤ y from q) h2))
def risT (l : List (List UInt8)) : List (List UInt8) := risL ltT l
theorem risT_pw (l : List (List UInt8)) : (risT l).Pairwise (fun a b => ltT a b = true) := pw_risL ltT_trans ltT_tri
theorem mem_risT {l : List (List UInt8)} {x : List UInt8} : x ∈ risT l ↔ x ∈ l := mem_risL
theorem risT_eq {L l : List (List UInt8)} (h : L.Pairwise (fun a b => ltT a b = true)) (hm : ∀ x, x ∈ L ↔ x ∈ l) : L = risT l :=
  risen_eq (r := fun a b => ltT a b = true) (fun x y a b => by rw [ltT_asymm _ _ a] at b; cases b) h (risT_pw l) (fun x => by rw [hm, mem_risT])
end Go.Proofs.YtnlhalnjbkpdnaaDoor
