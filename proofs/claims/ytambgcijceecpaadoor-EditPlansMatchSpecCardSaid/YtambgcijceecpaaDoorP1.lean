/- Which edits are needed, and which clash: the plain law. Conditions: none; plain Lean. -/
import Derived.Test.YtambgcijceecpaaDoorEB
namespace Go.Proofs.YtambgcijceecpaaDoor
open Go.RowKit
set_option linter.unusedVariables false
/-- All records with valid values. -/
def allR (fs : List Fld) (n : Nat) : List (List Int) := comps fs (List.replicate n true) n 0 (List.replicate n 0)
/-- A record fails an edit, and no other one that is left. -/
def onlyB (es : List Edt) (n m : Nat) (left : List Bool) (i : Nat) (r : List Int) : Bool := hitB (es.getD i edt0).2 r n && (List.range m).all (fun k => decide (k = i) || !(left.getD k false && hitB (es.getD k edt0).2 r n))
def needB (fs : List Fld) (es : List Edt) (n m : Nat) (left : List Bool) (i : Nat) : Bool := (allR fs n).any (onlyB es n m left i)
/-- What is left behind the first i edits. -/
def leftK (fs : List Fld) (es : List Edt) (n m : Nat) : Nat → List Bool
  | 0 => List.replicate m true
  | i + 1 => if needB fs es n m (leftK fs es n m i) i = true then leftK fs es n m i else (leftK fs es n m i).set i false
theorem leftK_len (fs : List Fld) (es : List Edt) (n m : Nat) : ∀ i, (leftK fs es n m i).length = m
  | 0 => by simp [leftK]
  | i + 1 => by rw [leftK]; split <;> simp [leftK_len fs es n m i]
theorem leftK_at {fs : List Fld} {es : List Edt} {n m : Nat} : ∀ {i k : Nat}, i ≤ k → k < m → (leftK fs es n m i).getD k false = true
  | 0, k, _, hk => by simp [leftK, List.getD_eq_getElem?_getD, hk]
  | i + 1, k, hi, hk => by
    rw [leftK]
    split
    · exact leftK_at (by omega) hk
    · rw [List.getD_eq_getElem?_getD, List.getElem?_set_ne (by omega), ← List.getD_eq_getElem?_getD]
      exact leftK_at (by omega) hk
def keptL (fs : List Fld) (es : List Edt) (n m k : Nat) : List Int := ((List.range k).filter (fun i : Nat => needB fs es n m (leftK fs es n m i) i)).map (fun i : Nat => (i : Int))
def dropL (fs : List Fld) (es : List Edt) (n m k : Nat) : List Int := ((List.range k).filter (fun i : Nat => !needB fs es n m (leftK fs es n m i) i)).map (fun i : Nat => (i : Int))
section
variable {fs : List Fld} {es : List Edt} {n m k : Nat}
theorem keptL_t (h : needB fs es n m (leftK fs es n m k) k = true) : keptL fs es n m (k + 1) = keptL fs es n m k ++ [(k : Int)] := by
  have e : List.filter (fun i : Nat => needB fs es n m (leftK fs es n m i) i) [k] = [k] := by rw [List.filter_cons_of_pos (by exact h)]; rfl
  unfold keptL; rw [List.range_succ, List.filter_append, List.map_append, e]; rfl
theorem keptL_f (h : needB fs es n m (leftK fs es n m k) k = false) : keptL fs es n m (k + 1) = keptL fs es n m k := by
  have e : List.filter (fun i : Nat => needB fs es n m (leftK fs es n m i) i) [k] = [] := by rw [List.filter_cons_of_neg (by rw [h]; simp)]; rfl
  unfold keptL; rw [List.range_succ, List.filter_append, List.map_append, e]; simp
theorem dropL_t (h : needB fs es n m (leftK fs es n m k) k = false) : dropL fs es n m (k + 1) = dropL fs es n m k ++ [(k : Int)] := by
  have e : List.filter (fun i : Nat => !needB fs es n m (leftK fs es n m i) i) [k] = [k] := by rw [List.filter_cons_of_pos (by simp [h])]; rfl
  unfold dropL; rw [List.range_succ, List.filter_append, List.map_append, e]; rfl
theorem dropL_f (h : needB fs es n m (leftK fs es n m k) k = true) : dropL fs es n m (k + 1) = dropL fs es n m k := by
  have e : List.filter (fun i : Nat => !needB fs es n m (leftK fs es n m i) i) [k] = [] := by rw [List.filter_cons_of_neg (by simp [h])]; rfl
  unfold dropL; rw [List.range_succ, List.filter_append, List.map_append, e]; simp
theorem keptL_len : (keptL fs es n m k).length ≤ k := by
  unfold keptL; rw [List.length_map]; exact Nat.le_trans (List.length_filter_le _ _) (by simp)
theorem dropL_len : (dropL fs es n m k).length ≤ k := by
  unfold dropL; rw [List.length_map]; exact Nat.le_trans (List.length_filter_le _ _) (by simp)
theorem mem_keptL {i : Nat} : (i : Int) ∈ keptL fs es n m k ↔ i < k ∧ needB fs es n m (leftK fs es n m i) i = true := by
  unfold keptL
  rw [List.mem_map]
  constructor
  · rintro ⟨j, hj, e⟩
    obtain rfl : j = i := by omega
    rw [List.mem_filter, List.mem_range] at hj
    exact hj
  · intro h
    exact ⟨i, by rw [List.mem_filter, List.mem_range]; exact h, rfl⟩
end
/-- How many of the edits that are left a record fails. -/
def cntK (fs : List Fld) (es : List Edt) (n m i : Nat) (r : List Int) : Nat := ((List.range m).filter (fun k => (leftK fs es n m i).getD k false && hitB (es.getD k edt0).2 r n)).length
theorem cntK_zero (fs : List Fld) (es : List Edt) (n m : Nat) (r : List Int) : cntK fs es n m 0 r = (failL es r n m).length := by
  unfold cntK failL
  rw [List.length_map]
  congr 1
  apply List.filter_congr
  intro k hk
  have := leftK_at (fs := fs) (es := es) (n := n) (m := m) (i := 0) (k := k) (Nat.zero_le _) (List.mem_range.1 hk)
  rw [this, Bool.true_and]
theorem len_one {α : Type} {l : List α} {p : α → Bool} {x : α} (hn : l.Nodup) (hx : x ∈ l) (hp : p x = true) : (l.filter p).length = 1 ↔ ∀ y ∈ l, y ≠ x → p y = false := by
  constructor
  · intro h y hy hne
    cases hq : p y with
    | false => rfl
    | true =>
      obtain ⟨z, hz⟩ := List.length_eq_one_iff.1 h
      have h1 : x ∈ l.filter p := List.mem_filter.2 ⟨hx, hp⟩
      have h2 : y ∈ l.filter p := List.mem_filter.2 ⟨hy, hq⟩
      rw [hz] at h1 h2
      rw [List.mem_singleton] at h1 h2
      exact absurd (h2.trans h1.symm) hne
  · intro h
    have e : l.filter p = [x] := by
      have hnf : (l.filter p).Nodup := List.Pairwise.filter p hn
      have hm : x ∈ l.filter p := List.mem_filter.2 ⟨hx, hp⟩
      have hall : ∀ y ∈ l.filter p, y = x := fun y hy => by
        obtain ⟨h1, h2⟩ := List.mem_filter.1 hy
        by_cases e : y = x
        · exact e
        · rw [h y h1 e] at h2; cases h2
      match hl : l.filter p, hnf, hm, hall with
      | [], _, hm, _ => simp at hm
      | [y], _, _, hall => rw [hall y (by simp)]
      | y :: z :: t, hnf, _, hall =>
        have e1 := hall y (by simp)
        have e2 := hall z (by simp)
        rw [List.nodup_cons] at hnf
        exact absurd (by rw [e1, ← e2]; simp) hnf.1
    rw [e]; rfl
theorem only_iff {fs : List Fld} {es : List Edt} {n m i : Nat} (hi : i < m) {r : List Int} (hh : hitB (es.getD i edt0).2 r n = true) : onlyB es n m (leftK fs es n m i) i r = true ↔ cntK fs es n m i r = 1 := by
  have hl := leftK_at (fs := fs) (es := es) (n := n) (m := m) (i := i) (k := i) (Nat.le_refl _) hi
  unfold onlyB cntK
  rw [hh, Bool.true_and, List.all_eq_true, len_one (x := i) List.nodup_range (List.mem_range.2 hi) (by rw [hl, hh]; rfl)]
  constructor
  · intro h k hk hne
    have := h k hk
    simp only [Bool.or_eq_true, decide_eq_true_eq, Bool.not_eq_true'] at this
    rcases this with e | e
    · exact absurd e hne
    · exact e
  · intro h k hk
    by_cases e : k = i
    · simp [e]
    · have := h k hk e
      simp only [Bool.or_eq_true, decide_eq_true_eq, Bool.not_eq_true']
      exact .inr this
theorem need_iff {fs : List Fld} {es : List Edt} {n m i : Nat} (hi : i < m) : needB fs es n m (leftK fs es n m i) i = true ↔ ∃ r ∈ allR fs n, hitB (es.getD i edt0).2 r n = true ∧ cntK fs es n m i r = 1 := by
  unfold needB
  rw [List.any_eq_true]
  constructor
  · rintro ⟨r, hr, h⟩
    have hh : hitB (es.getD i edt0).2 r n = true := by
      unfold onlyB at h
      rw [Bool.and_eq_true] at h
      exact h.1
    exact ⟨r, hr, hh, (only_iff hi hh).1 h⟩
  · rintro ⟨r, hr, hh, h⟩
    exact ⟨r, hr, (only_iff hi hh).2 h⟩
theorem filter_drop {l : List Nat} {p q : Nat → Bool} {i : Nat} (hn : l.Nodup) (hi : i ∈ l) (hp : p i = true) (hq : q i = false) (h : ∀ k, k ≠ i → q k = p k) : (l.filter q).length + 1 = (l.filter p).length := by
  induction l with
  | nil => simp at hi
  | cons x l ih =>
    rw [List.nodup_cons] at hn
    by_cases e : x = i
    · subst e
      rw [List.filter_cons_of_pos hp, List.filter_cons_of_neg (by rw [hq]; simp), List.length_cons]
      congr 2
      apply List.filter_congr
      intro k hk
      exact h k (fun e => hn.1 (e ▸ hk))
    · have hi2 : i ∈ l := by rcases List.mem_cons.1 hi with e2 | e2; exact absurd e2.symm e; exact e2
      have := ih hn.2 hi2
      rw [List.filter_cons, List.filter_cons, h x e]
      split
      · rw [List.length_cons, List.length_cons, this]
      · exact this
theorem filter_same {l : List Nat} {p q : Nat → Bool} (h : ∀ k ∈ l, q k = p k) : (l.filter q).length = (l.filter p).length := by
  rw [List.filter_congr h]
theorem cntK_next {fs : List Fld} {es : List Edt} {n m i : Nat} (hi : i < m) (hnd : needB fs es n m (leftK fs es n m i) i = false) (r : List Int) :
    cntK fs es n m (i + 1) r + (if hitB (es.getD i edt0).2 r n = true then 1 else 0) = cntK fs es n m i r := by
  have hl := leftK_at (fs := fs) (es := es) (n := n) (m := m) (i := i) (k := i) (Nat.le_refl _) hi
  have hlen := leftK_len fs es n m i
  unfold cntK
  rw [leftK, if_neg (by rw [hnd]; simp)]
  have hset : ∀ k, ((leftK fs es n m i).set i false).getD k false = if k = i then false else (leftK fs es n m i).getD k false := fun k => by
    rw [List.getD_eq_getElem?_getD, List.getElem?_set, List.getD_eq_getElem?_getD]
    by_cases e : i = k
    · subst e; simp [hlen, hi]
    · rw [if_neg e, if_neg (fun q => e q.symm)]
  by_cases hh : hitB (es.getD i edt0).2 r n = true
  · rw [if_pos hh]
    refine filter_drop (i := i) List.nodup_range (List.mem_range.2 hi) (by rw [hl, hh]; rfl) (by rw [hset, if_pos rfl]; rfl) (fun k hk => by rw [hset, if_neg hk])
  · rw [if_neg hh, Nat.add_zero]
    refine filter_same (fun k _ => ?_)
    rw [hset]
    by_cases e : k = i
    · subst e; rw [if_pos rfl, Bool.eq_false_iff.2 hh]; simp
    · rw [if_neg e]
theorem leftK_keep {fs : List Fld} {es : List Edt} {n m i : Nat} (hnd : needB fs es n m (leftK fs es n m i) i = true) : leftK fs es n m (i + 1) = leftK fs es n m i := by rw [leftK, if_pos hnd]
theorem leftK_drop {fs : List Fld} {es : List Edt} {n m i : Nat} (hnd : needB fs es n m (leftK fs es n m i) i = false) : leftK fs es n m (i + 1) = (leftK fs es n m i).set i false := by rw [leftK, if_neg (by rw [hnd]; simp)]
/-- A record passes the edits that are left. -/
def posB (fs : List Fld) (es : List Edt) (n m : Nat) (left : List Bool) : Bool := (allR fs n).any (fun r => (List.range m).all (fun k => !(left.getD k false && hitB (es.getD k edt0).2 r n)))
/-- Where no record passes what is left, an edit is needed just if without it one passes. -/
theorem pos_need {fs : List Fld} {es : List Edt} {n m i : Nat} {left : List Bool} (hlen : left.length = m) (hi : i < m) (h0 : posB fs es n m left = false) : posB fs es n m (left.set i false) = needB fs es n m left i := by
  have hset : ∀ k, (left.set i false).getD k false = if k = i then false else left.getD k false := fun k => by
    rw [List.getD_eq_getElem?_getD, List.getElem?_set, List.getD_eq_getElem?_getD]
    by_cases e : i = k
    · subst e; simp [hlen, hi]
    · rw [if_neg e, if_neg (fun q => e q.symm)]
  rw [Bool.eq_iff_iff]
  unfold posB needB
  rw [List.any_eq_true, List.any_eq_true]
  constructor
  · rintro ⟨r, hr, h⟩
    rw [List.all_eq_true] at h
    refine ⟨r, hr, ?_⟩
    unfold onlyB
    rw [Bool.and_eq_true, List.all_eq_true]
    refine ⟨?_, fun k hk => ?_⟩
    · cases hq : hitB (es.getD i edt0).2 r n with
      | true => rfl
      | false =>
        exfalso
        unfold posB at h0
        rw [List.any_eq_false] at h0
        have := h0 r hr
        apply this
        rw [List.all_eq_true]
        intro k hk
        have h1 := h k hk
        rw [hset] at h1
        by_cases e : k = i
        · subst e; rw [hq]; simp
        · rw [if_neg e] at h1; exact h1
    · have h1 := h k hk
      rw [hset] at h1
      by_cases e : k = i
      · simp [e]
      · rw [if_neg e] at h1; rw [h1]; simp
  · rintro ⟨r, hr, h⟩
    unfold onlyB at h
    rw [Bool.and_eq_true, List.all_eq_true] at h
    refine ⟨r, hr, ?_⟩
    rw [List.all_eq_true]
    intro k hk
    rw [hset]
    by_cases e : k = i
    · rw [if_pos e]; rfl
    · rw [if_neg e]
      have := h.2 k hk
      simpa [e] using this
theorem pos_left {fs : List Fld} {es : List Edt} {n m : Nat} (h0 : posB fs es n m (List.replicate m true) = false) : ∀ i, i ≤ m → posB fs es n m (leftK fs es n m i) = false
  | 0, _ => h0
  | i + 1, hi => by
    have ih := pos_left h0 i (by omega)
    cases hnd : needB fs es n m (leftK fs es n m i) i with
    | true => rw [leftK_keep hnd]; exact ih
    | false => rw [leftK_drop hnd, pos_need (leftK_len fs es n m i) (by omega) ih]; exact hnd
theorem pos_all {fs : List Fld} {es : List Edt} {n m : Nat} : posB fs es n m (List.replicate m true) = (allR fs n).any (fun r => decide ((failL es r n m).length = 0)) := by
  unfold posB
  congr 1
  funext r
  rw [Bool.eq_iff_iff, List.all_eq_true, decide_eq_true_iff]
  unfold failL
  rw [List.length_map, List.length_eq_zero_iff, List.filter_eq_nil_iff]
  refine forall_congr' fun k => forall_congr' fun hk => ?_
  simp [List.getD_eq_getElem?_getD, List.mem_range.1 hk]
end Go.Proofs.YtambgcijceecpaaDoor
