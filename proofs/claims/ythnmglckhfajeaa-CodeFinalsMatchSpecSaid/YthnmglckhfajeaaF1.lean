/- Finals of codings: the plain law. No program in sight. -/
import Derived.Test.YthnmglckhfajeaaR7
namespace Go.Proofs.Ythnmglckhfajeaa
set_option linter.unusedVariables false

/-- How many codings have a code; how many have it above their own, or as their own. -/
def cntO (g : List Cdg) (c : Int) : Nat := (g.filter (fun x => decide (x.2.2 = c))).length
def cntA (l : List Nod) (g : List Cdg) (c : Int) : Nat := (g.filter (fun x => decide (c ∈ upL l x.2.2))).length
def majO (g : List Cdg) (c : Int) : Prop := g.length < 2 * cntO g c
def majA (l : List Nod) (g : List Cdg) (c : Int) : Prop := g.length < 2 * cntA l g c
/-- What becomes of codings: (case, code, way). -/
def FinR (l : List Nod) (g : List Cdg) (r : Cdg) : Prop :=
  r.1 = (g.getD 0 cdg0).1 ∧
  ((majO g r.2.1 ∧ r.2.2 = if cntO g r.2.1 = g.length then 1 else 2) ∨
   ((∀ c, ¬ majO g c) ∧ majA l g r.2.1 ∧ (∀ c, majA l g c → lvl l c ≤ lvl l r.2.1) ∧ r.2.2 = 3) ∨
   ((∀ c, ¬ majO g c) ∧ (∀ c, ¬ majA l g c) ∧ r.2.1 = 0 ∧ r.2.2 = 4))
theorem two_maj {α : Type} (p q : α → Bool) : ∀ (g : List α), g.length < (g.filter p).length + (g.filter q).length → ∃ x ∈ g, p x = true ∧ q x = true
  | [], h => by simp at h
  | x :: g, h => by
    by_cases hx : p x = true ∧ q x = true
    · exact ⟨x, by simp, hx⟩
    · obtain ⟨y, hy, hpq⟩ := two_maj p q g (by
        rw [List.filter_cons, List.filter_cons] at h
        cases hp : p x <;> cases hq : q x <;> simp [hp, hq] at h hx <;> omega)
      exact ⟨y, by simp [hy], hpq⟩
theorem cntO_le (g : List Cdg) (c : Int) : cntO g c ≤ g.length := List.length_filter_le _ _
theorem cntA_le (l : List Nod) (g : List Cdg) (c : Int) : cntA l g c ≤ g.length := List.length_filter_le _ _
theorem cntO_snoc (g : List Cdg) (x : Cdg) (c : Int) : cntO (g ++ [x]) c = cntO g c + if x.2.2 = c then 1 else 0 := by
  unfold cntO; rw [List.filter_append]; by_cases h : x.2.2 = c <;> simp [h]
theorem cntA_snoc (l : List Nod) (g : List Cdg) (x : Cdg) (c : Int) : cntA l (g ++ [x]) c = cntA l g c + if c ∈ upL l x.2.2 then 1 else 0 := by
  unfold cntA; rw [List.filter_append]; by_cases h : c ∈ upL l x.2.2 <;> simp [h]
theorem cnt_mem {g : List Cdg} {c : Int} (h : 0 < cntO g c) : ∃ x ∈ g, x.2.2 = c := by
  unfold cntO at h
  obtain ⟨x, hx⟩ := List.exists_mem_of_length_pos h
  rw [List.mem_filter] at hx
  exact ⟨x, hx.1, by simpa using hx.2⟩
theorem cntA_mem {l : List Nod} {g : List Cdg} {c : Int} (h : 0 < cntA l g c) : ∃ x ∈ g, c ∈ upL l x.2.2 := by
  unfold cntA at h
  obtain ⟨x, hx⟩ := List.exists_mem_of_length_pos h
  rw [List.mem_filter] at hx
  exact ⟨x, hx.1, by simpa using hx.2⟩
theorem majO_uniq {g : List Cdg} {c c' : Int} (h : majO g c) (h' : majO g c') : c = c' := by
  unfold majO cntO at h h'
  obtain ⟨x, _, h1, h2⟩ := two_maj (fun x : Cdg => decide (x.2.2 = c)) (fun x : Cdg => decide (x.2.2 = c')) g (by omega)
  simp at h1 h2
  exact h1.symm.trans h2
theorem majA_both {l : List Nod} {g : List Cdg} {c c' : Int} (h : majA l g c) (h' : majA l g c') : ∃ x ∈ g, c ∈ upL l x.2.2 ∧ c' ∈ upL l x.2.2 := by
  unfold majA cntA at h h'
  obtain ⟨x, hx, h1, h2⟩ := two_maj (fun x : Cdg => decide (c ∈ upL l x.2.2)) (fun x : Cdg => decide (c' ∈ upL l x.2.2)) g (by omega)
  simp at h1 h2
  exact ⟨x, hx, h1, h2⟩
section
variable {l : List Nod} {n : Nat} {g : List Cdg}
theorem majA_up (ht : TrOk l n) (hv : ∀ x ∈ g, (ix l x.2.2).isSome = true) {c c' : Int} (h : majA l g c) (h' : majA l g c') (hl : lvl l c' ≤ lvl l c) : c' ∈ upL l c := by
  obtain ⟨x, hx, h1, h2⟩ := majA_both h h'
  obtain ⟨⟨m, hm, _⟩, _⟩ := code_lv ht (hv x hx)
  exact (up_facts ht.len hm h1).2.2.2.2.2 _ h2 hl
theorem majA_vld (ht : TrOk l n) (hv : ∀ x ∈ g, (ix l x.2.2).isSome = true) {c : Int} (h : 0 < cntA l g c) : (ix l c).isSome = true := by
  obtain ⟨x, hx, h1⟩ := cntA_mem h
  exact upL_vld ht (.inr (hv x hx)) h1
theorem majA_uniq (ht : TrOk l n) (hv : ∀ x ∈ g, (ix l x.2.2).isSome = true) {c c' : Int} (h : majA l g c) (h' : majA l g c') (hl : lvl l c' = lvl l c) : c' = c := by
  have h1 := majA_up ht hv h h' (Nat.le_of_eq hl)
  have hc := majA_vld ht hv (c := c) (by unfold majA at h; omega)
  obtain ⟨⟨m, hm, _⟩, _⟩ := code_lv ht hc
  exact (up_facts ht.len hm h1).2.2.2.1 hl
theorem FinR_uniq (ht : TrOk l n) (hv : ∀ x ∈ g, (ix l x.2.2).isSome = true) {r r' : Cdg} (h : FinR l g r) (h' : FinR l g r') : r = r' := by
  obtain ⟨a, b, c⟩ := r
  obtain ⟨a', b', c'⟩ := r'
  obtain ⟨h1, h2⟩ := h
  obtain ⟨h1', h2'⟩ := h'
  dsimp only at *
  have ha : a = a' := h1.trans h1'.symm
  subst ha
  rcases h2 with ⟨p1, p2⟩ | ⟨p1, p2, p3, p4⟩ | ⟨p1, p2, p3, p4⟩ <;> rcases h2' with ⟨q1, q2⟩ | ⟨q1, q2, q3, q4⟩ | ⟨q1, q2, q3, q4⟩
  · have := majO_uniq p1 q1
    subst this
    rw [p2, q2]
  · exact absurd p1 (q1 _)
  · exact absurd p1 (q1 _)
  · exact absurd q1 (p1 _)
  · have := majA_uniq ht hv q2 p2 (Nat.le_antisymm (q3 _ p2) (p3 _ q2))
    rw [this, p4, q4]
  · exact absurd p2 (q2 _)
  · exact absurd q1 (p1 _)
  · exact absurd q2 (p2 _)
  · rw [p3, p4, q3, q4]
/-- .. as a function. -/
noncomputable def finF (l : List Nod) (g : List Cdg) : Cdg := @dite _ (∃ r, FinR l g r) (Classical.propDecidable _) (fun h => Classical.choose h) (fun _ => cdg0)
theorem finF_eq (ht : TrOk l n) (hv : ∀ x ∈ g, (ix l x.2.2).isSome = true) {r : Cdg} (h : FinR l g r) : finF l g = r := by
  have he : ∃ r, FinR l g r := ⟨r, h⟩
  unfold finF
  rw [dif_pos he]
  exact FinR_uniq ht hv (Classical.choose_spec he) h
/-- How many codes lie at a code or below it. -/
def covN (l : List Nod) (c : Int) : Nat := (l.filter (fun x => decide (c ∈ upL l x.1))).length
theorem filter_lt_of {α : Type} (p q : α → Bool) : ∀ (g : List α), (∀ x ∈ g, p x = true → q x = true) → (∃ x ∈ g, p x = false ∧ q x = true) → (g.filter p).length < (g.filter q).length
  | [], _, h => by obtain ⟨x, hx, _⟩ := h; simp at hx
  | x :: g, hs, ⟨y, hy, h1, h2⟩ => by
    have hle : ∀ (g : List α), (∀ x ∈ g, p x = true → q x = true) → (g.filter p).length ≤ (g.filter q).length := by
      intro g
      induction g with
      | nil => simp
      | cons x g ih =>
        intro h
        have ih := ih (fun y hy => h y (by simp [hy]))
        rw [List.filter_cons, List.filter_cons]
        cases hp : p x
        · cases hq : q x <;> simp <;> omega
        · rw [h x (by simp) hp]; simp; exact ih
    rw [List.filter_cons, List.filter_cons]
    rcases List.mem_cons.1 hy with rfl | hy
    · rw [h1, h2]
      have := hle g (fun z hz => hs z (by simp [hz]))
      simp; omega
    · have ih := filter_lt_of p q g (fun z hz => hs z (by simp [hz])) ⟨y, hy, h1, h2⟩
      cases hp : p x
      · cases hq : q x <;> simp <;> omega
      · rw [hs x (by simp) hp]; simp; exact ih
theorem cov_lt (ht : TrOk l n) {c c' : Int} (hc : (ix l c).isSome = true) (hc' : (ix l c').isSome = true) (h : c ∈ upL l c') (hl : lvl l c < lvl l c') : covN l c' < covN l c := by
  unfold covN
  refine filter_lt_of _ _ _ (fun x hx hp => ?_) ?_
  · simp at hp ⊢
    obtain ⟨i, hi, rfl⟩ := List.getElem_of_mem hx
    have hv : (ix l l[i].1).isSome = true := by
      have := ht.ix_of (i := i) (by rw [← ht.len]; exact hi)
      rw [show cod l i = l[i].1 by unfold cod; rw [getD_elem0 _ _ _ hi]] at this
      rw [this]; rfl
    obtain ⟨⟨m, hm, _⟩, _⟩ := code_lv ht hv
    exact (up_facts ht.len hm hp).2.2.2.2.1 _ h
  · obtain ⟨i, hi, he, _⟩ := ht.up hc
    have hi' : i < l.length := by rw [ht.len]; exact hi
    have hce : l[i].1 = c := by rw [← he]; unfold cod; rw [getD_elem0 _ _ _ hi']
    refine ⟨l[i], List.getElem_mem hi', ?_, ?_⟩
    · rw [hce]
      simp
      intro hin
      obtain ⟨⟨m, hm, _⟩, _⟩ := code_lv ht hc
      have := (up_facts ht.len hm hin).2.2.1
      omega
    · rw [hce]
      simp
      obtain ⟨⟨m, hm, _⟩, h0⟩ := code_lv ht hc
      exact self_mem ht.len hm h0
end
/-- Codings by cases. -/
def grpK (cs : List Cdg) : Nat → List (List Cdg)
  | 0 => []
  | k + 1 => if k = 0 ∨ (cs.getD k cdg0).1 ≠ (cs.getD (k - 1) cdg0).1 then grpK cs k ++ [[cs.getD k cdg0]] else (grpK cs k).dropLast ++ [(grpK cs k).getLastD [] ++ [cs.getD k cdg0]]
theorem grpK_ok (cs : List Cdg) : ∀ k, k ≤ cs.length → (∀ g ∈ grpK cs k, g ≠ [] ∧ g.length ≤ k ∧ ∀ x ∈ g, x ∈ cs) ∧ (grpK cs k).length ≤ k ∧ (0 < k → grpK cs k ≠ [])
  | 0, _ => by simp [grpK]
  | k + 1, hk => by
    obtain ⟨h1, h2, h3⟩ := grpK_ok cs k (by omega)
    have hx : cs.getD k cdg0 ∈ cs := by rw [getD_elem0 _ _ _ (by omega)]; exact List.getElem_mem _
    unfold grpK
    split
    · refine ⟨fun g hg => ?_, by simp; omega, by simp⟩
      rcases List.mem_append.1 hg with hg | hg
      · obtain ⟨a, b, c⟩ := h1 g hg
        exact ⟨a, by omega, c⟩
      · simp at hg; subst hg; exact ⟨by simp, by simp, by simpa using hx⟩
    · next hn =>
      have hk0 : 0 < k := by
        rcases Nat.eq_zero_or_pos k with h | h
        · exact absurd (.inl h) hn
        · exact h
      have hne := h3 hk0
      refine ⟨fun g hg => ?_, by rw [List.length_append, List.length_dropLast, List.length_singleton]; omega, by simp⟩
      rcases List.mem_append.1 hg with hg | hg
      · obtain ⟨a, b, c⟩ := h1 g (List.dropLast_subset _ hg)
        exact ⟨a, by omega, c⟩
      · simp only [List.mem_singleton] at hg
        subst hg
        have hl : (grpK cs k).getLastD [] ∈ grpK cs k := by rw [List.getLastD_eq_getLast?, List.getLast?_eq_some_getLast hne]; exact List.getLast_mem hne
        obtain ⟨a, b, c⟩ := h1 _ hl
        refine ⟨by simp, by rw [List.length_append, List.length_singleton]; omega, fun x hxx => ?_⟩
        rcases List.mem_append.1 hxx with hxx | hxx
        · exact c x hxx
        · simp at hxx; subst hxx; exact hx
noncomputable def fnlF (l : List Nod) (cs : List Cdg) : List Cdg × Int := if frcF l cs ≠ 0 then ([], frcF l cs) else ((grpK cs cs.length).map (finF l), 0)
end Go.Proofs.Ythnmglckhfajeaa
