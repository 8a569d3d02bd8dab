/- What Changed computes, and that the record of it is the record: the plain law. Conditions: none; plain Lean. -/
import Derived.Test.YtkfmadeeobalaaaDoorD13
namespace Go.Proofs.YtkfmadeeobalaaaDoor
open Go.RowKit
set_option linter.unusedVariables false
/-- The element that a field's code makes. -/
def newG (nm : ByteArray) (c : Int) : Giv := ((nm, []), (4, c, ⟨#[]⟩, []))
/-- One field more. -/
def chgS (fs : List Fld) (rec old : List Int) (out : List Giv) (k : Nat) : List Giv :=
  if rec.getD k 0 = old.getD k 0 then out
  else if rec.getD k 0 = 0 then out.eraseIdx (findI out (fs.getD k fld0).1).toNat
  else if 0 ≤ findI out (fs.getD k fld0).1 then out.set (findI out (fs.getD k fld0).1).toNat (newG (fs.getD k fld0).1 (rec.getD k 0))
  else out ++ [newG (fs.getD k fld0).1 (rec.getD k 0)]
def chgK (fs : List Fld) (rec old : List Int) (l : List Giv) : Nat → List Giv
  | 0 => l
  | k + 1 => chgS fs rec old (chgK fs rec old l k) k
/-- The code that the elements of a field tell. -/
def codeH (o : List Giv) : Int := match o with
  | g :: _ => if g.2.1 = 4 then g.2.2.1 else 0
  | [] => 0
theorem find_split {l : List Giv} {nm : ByteArray} {i : Nat} (h : findI l nm = i) : ∃ A x B, l = A ++ x :: B ∧ A.length = i ∧ atB nm x = true ∧ ∀ a ∈ A, atB nm a = false := by
  rcases findI_cases l nm with ⟨h1, _⟩ | ⟨k, hk, h1, h2, h3⟩
  · omega
  · have hki : k = i := by omega
    subst hki
    refine ⟨l.take k, l.getD k giv0, l.drop (k + 1), ?_, by rw [List.length_take]; omega, h2, fun a ha => ?_⟩
    · rw [getD_elem0 _ _ _ hk, ← List.drop_eq_getElem_cons hk, List.take_append_drop]
    · obtain ⟨j, hj, rfl⟩ := List.mem_iff_getElem.1 ha
      rw [List.length_take] at hj
      have := h3 j (by omega)
      rw [getD_elem0 _ _ _ (by omega)] at this
      rw [List.getElem_take]; exact this
theorem filter_none {A : List Giv} {nm : ByteArray} (h : ∀ a ∈ A, atB nm a = false) : A.filter (atB nm) = [] := by
  rw [List.filter_eq_nil_iff]
  intro a ha
  rw [h a ha]; simp
theorem find_neg {l : List Giv} {nm : ByteArray} (h : findI l nm < 0) : l.filter (atB nm) = [] := by
  rcases findI_cases l nm with ⟨_, h2⟩ | ⟨k, _, h1, _⟩
  · apply filter_none
    intro a ha
    obtain ⟨j, hj, rfl⟩ := List.mem_iff_getElem.1 ha
    have := h2 j hj
    rw [getD_elem0 _ _ _ hj] at this
    exact this
  · omega
theorem codeOf_eq (l : List Giv) (nm : ByteArray) : codeOf l nm = codeH (l.filter (atB nm)) := by
  by_cases h : findI l nm < 0
  · rw [find_neg h, codeOf, if_neg (by omega)]; rfl
  · obtain ⟨i, hi⟩ : ∃ i : Nat, findI l nm = i := ⟨(findI l nm).toNat, by omega⟩
    obtain ⟨A, x, B, rfl, hA, hx, ha⟩ := find_split hi
    have e : (A ++ x :: B).getD i giv0 = x := by rw [List.getD_eq_getElem?_getD, List.getElem?_append_right (by omega), hA, Nat.sub_self]; rfl
    rw [List.filter_append, filter_none ha, List.nil_append, List.filter_cons_of_pos hx]
    have ec : codeH (x :: B.filter (atB nm)) = if x.2.1 = 4 then x.2.2.1 else 0 := rfl
    rw [ec]
    unfold codeOf
    rw [hi, show ((i : Int)).toNat = i by omega, e]
    by_cases h4 : x.2.1 = 4
    · rw [if_pos ⟨by omega, h4⟩, if_pos h4]
    · rw [if_neg (fun q => h4 q.2), if_neg h4]
theorem atB_inj {n1 n2 : ByteArray} {x : Giv} (h1 : atB n1 x = true) (h2 : atB n2 x = true) : n1 = n2 := by
  unfold atB at h1 h2
  simp at h1 h2
  exact h1.1.symm.trans h2.1
theorem atB_new (nm n2 : ByteArray) (c : Int) : atB n2 (newG nm c) = decide (nm = n2) := by
  unfold atB newG
  simp
/-- No field has two elements. -/
def Uniq (l : List Giv) : Prop := ∀ nm, (l.filter (atB nm)).length ≤ 1
section
variable {l : List Giv} {nm n2 : ByteArray} {c : Int}
theorem flt_app (h : l.filter (atB nm) = []) : (l ++ [newG nm c]).filter (atB n2) = if nm = n2 then [newG nm c] else l.filter (atB n2) := by
  rw [List.filter_append]
  by_cases e : nm = n2
  · subst e
    rw [h, if_pos rfl, List.filter_cons_of_pos (by rw [atB_new]; simp)]; rfl
  · rw [if_neg e, List.filter_cons_of_neg (by rw [atB_new]; simp [e])]
    simp
theorem flt_set {i : Nat} (h : findI l nm = i) (hu : Uniq l) : (l.set i (newG nm c)).filter (atB n2) = if nm = n2 then [newG nm c] else l.filter (atB n2) := by
  obtain ⟨A, x, B, rfl, hA, hx, ha⟩ := find_split h
  have e1 : (A ++ x :: B).set i (newG nm c) = A ++ newG nm c :: B := by
    rw [List.set_append_right _ _ (by omega), hA, Nat.sub_self]; rfl
  rw [e1, List.filter_append]
  have hB := hu nm
  rw [List.filter_append, filter_none ha, List.nil_append, List.filter_cons_of_pos hx, List.length_cons] at hB
  have hB0 : B.filter (atB nm) = [] := List.eq_nil_of_length_eq_zero (by omega)
  by_cases e : nm = n2
  · subst e
    rw [if_pos rfl, filter_none ha, List.nil_append, List.filter_cons_of_pos (by rw [atB_new]; simp), hB0]
  · have hx2 : ¬ atB n2 x = true := fun q => e (atB_inj hx q)
    rw [if_neg e, List.filter_cons_of_neg (by rw [atB_new]; simp [e]), List.filter_append, List.filter_cons_of_neg hx2]
theorem flt_erase {i : Nat} (h : findI l nm = i) (hu : Uniq l) : (l.eraseIdx i).filter (atB n2) = if nm = n2 then [] else l.filter (atB n2) := by
  obtain ⟨A, x, B, rfl, hA, hx, ha⟩ := find_split h
  have e1 : (A ++ x :: B).eraseIdx i = A ++ B := by
    rw [List.eraseIdx_append_of_length_le (by omega), hA, Nat.sub_self]; rfl
  rw [e1, List.filter_append]
  have hB := hu nm
  rw [List.filter_append, filter_none ha, List.nil_append, List.filter_cons_of_pos hx, List.length_cons] at hB
  have hB0 : B.filter (atB nm) = [] := List.eq_nil_of_length_eq_zero (by omega)
  by_cases e : nm = n2
  · subst e
    rw [if_pos rfl, filter_none ha, hB0]; rfl
  · have hx2 : ¬ atB n2 x = true := fun q => e (atB_inj hx q)
    rw [if_neg e, List.filter_append, List.filter_cons_of_neg hx2]
end
/-- What one step does to the elements of each field. -/
theorem chgS_flt {fs : List Fld} {rec old : List Int} {out : List Giv} {k : Nat} (hu : Uniq out) (h0 : rec.getD k 0 ≠ old.getD k 0 → rec.getD k 0 = 0 → 0 ≤ findI out (fs.getD k fld0).1) (n2 : ByteArray) :
    (chgS fs rec old out k).filter (atB n2) = if rec.getD k 0 = old.getD k 0 ∨ (fs.getD k fld0).1 ≠ n2 then out.filter (atB n2) else if rec.getD k 0 = 0 then [] else [newG (fs.getD k fld0).1 (rec.getD k 0)] := by
  unfold chgS
  by_cases h1 : rec.getD k 0 = old.getD k 0
  · rw [if_pos h1, if_pos (.inl h1)]
  · rw [if_neg h1]
    by_cases h2 : rec.getD k 0 = 0
    · rw [if_pos h2]
      have h3 := h0 h1 h2
      obtain ⟨i, hi⟩ : ∃ i : Nat, findI out (fs.getD k fld0).1 = i := ⟨(findI out (fs.getD k fld0).1).toNat, by omega⟩
      rw [hi, show ((i : Int)).toNat = i by omega, flt_erase hi hu]
      by_cases e : (fs.getD k fld0).1 = n2
      · rw [if_pos e, if_neg (fun q => q.elim h1 (fun q => q e)), if_pos h2]
      · rw [if_neg e, if_pos (.inr e)]
    · rw [if_neg h2]
      by_cases h3 : 0 ≤ findI out (fs.getD k fld0).1
      · rw [if_pos h3]
        obtain ⟨i, hi⟩ : ∃ i : Nat, findI out (fs.getD k fld0).1 = i := ⟨(findI out (fs.getD k fld0).1).toNat, by omega⟩
        rw [hi, show ((i : Int)).toNat = i by omega, flt_set hi hu]
        by_cases e : (fs.getD k fld0).1 = n2
        · rw [if_pos e, if_neg (fun q => q.elim h1 (fun q => q e)), if_neg h2]
        · rw [if_neg e, if_pos (.inr e)]
      · rw [if_neg h3, flt_app (find_neg (by omega))]
        by_cases e : (fs.getD k fld0).1 = n2
        · rw [if_pos e, if_neg (fun q => q.elim h1 (fun q => q e)), if_neg h2]
        · rw [if_neg e, if_pos (.inr e)]
theorem find_of_code {l : List Giv} {nm : ByteArray} (h : codeH (l.filter (atB nm)) ≠ 0) : 0 ≤ findI l nm := by
  apply Classical.byContradiction
  intro e
  rw [find_neg (by omega)] at h
  exact h rfl
/-- What holds behind k fields. -/
theorem chgK_ok {fs : List Fld} {rec old : List Int} {l : List Giv} {n : Nat} (hd : ∀ i j, i < n → j < n → (fs.getD i fld0).1 = (fs.getD j fld0).1 → i = j) (hu : Uniq l) (ho : ∀ j, j < n → old.getD j 0 = codeH (l.filter (atB (fs.getD j fld0).1))) :
    ∀ k, k ≤ n → Uniq (chgK fs rec old l k) ∧ ∀ j, j < n → codeH ((chgK fs rec old l k).filter (atB (fs.getD j fld0).1)) = if j < k then rec.getD j 0 else old.getD j 0
  | 0, _ => ⟨hu, fun j hj => by rw [if_neg (by omega)]; exact (ho j hj).symm⟩
  | k + 1, hk => by
    obtain ⟨h1, h2⟩ := chgK_ok (rec := rec) hd hu ho k (by omega)
    have h0 : rec.getD k 0 ≠ old.getD k 0 → rec.getD k 0 = 0 → 0 ≤ findI (chgK fs rec old l k) (fs.getD k fld0).1 := fun q1 q2 => by
      apply find_of_code
      rw [h2 k (by omega), if_neg (by omega)]
      exact fun e => q1 (q2.trans e.symm)
    have hf := fun n2 => chgS_flt (rec := rec) (old := old) (k := k) (fs := fs) h1 h0 n2
    refine ⟨fun nm => ?_, fun j hj => ?_⟩
    · show ((chgS fs rec old (chgK fs rec old l k) k).filter (atB nm)).length ≤ 1
      rw [hf nm]
      split
      · exact h1 nm
      · split <;> simp
    · show codeH ((chgS fs rec old (chgK fs rec old l k) k).filter (atB (fs.getD j fld0).1)) = _
      rw [hf]
      by_cases e : j = k
      · subst e
        rw [if_pos (show j < j + 1 by omega)]
        by_cases q1 : rec.getD j 0 = old.getD j 0
        · rw [if_pos (.inl q1), h2 j hj, if_neg (by omega)]; exact q1.symm
        · rw [if_neg (fun q => q.elim q1 (fun q => q rfl))]
          by_cases q2 : rec.getD j 0 = 0
          · rw [if_pos q2, q2]; rfl
          · rw [if_neg q2]
            show (if (4 : Int) = 4 then rec.getD j 0 else 0) = _
            rw [if_pos rfl]
      · rw [if_pos (.inr (fun q => e (hd k j (by omega) hj q).symm)), h2 j hj]
        by_cases q : j < k
        · rw [if_pos q, if_pos (show j < k + 1 by omega)]
        · rw [if_neg q, if_neg (show ¬ j < k + 1 by omega)]
theorem chgS_len (fs : List Fld) (rec old : List Int) (out : List Giv) (k : Nat) : (chgS fs rec old out k).length ≤ out.length + 1 := by
  unfold chgS
  split
  · omega
  · split
    · rw [List.length_eraseIdx]; split <;> omega
    · split
      · rw [List.length_set]; omega
      · simp
theorem chgK_len (fs : List Fld) (rec old : List Int) (l : List Giv) : ∀ k, (chgK fs rec old l k).length ≤ l.length + k
  | 0 => Nat.le_refl _
  | k + 1 => by
    have h1 := chgK_len fs rec old l k
    have h2 := chgS_len fs rec old (chgK fs rec old l k) k
    show (chgS fs rec old (chgK fs rec old l k) k).length ≤ _
    omega
/-- Data that are right have no field twice. -/
theorem uniq_of {l : List Giv} (h : ∀ i, i < l.length → dupB l i = false) : Uniq l := by
  intro nm
  apply Classical.byContradiction
  intro hc
  by_cases hf : findI l nm < 0
  · rw [find_neg hf] at hc; exact hc (by simp)
  · obtain ⟨i, hi⟩ : ∃ i : Nat, findI l nm = i := ⟨(findI l nm).toNat, by omega⟩
    obtain ⟨A, x, B, rfl, hA, hx, ha⟩ := find_split hi
    rw [List.filter_append, filter_none ha, List.nil_append, List.filter_cons_of_pos hx, List.length_cons] at hc
    obtain ⟨y, hy⟩ := List.exists_mem_of_length_pos (l := B.filter (atB nm)) (by omega)
    obtain ⟨hyB, hyn⟩ := List.mem_filter.1 hy
    obtain ⟨j, hj, rfl⟩ := List.mem_iff_getElem.1 hyB
    have e1 : (A ++ x :: B).getD i giv0 = x := by rw [List.getD_eq_getElem?_getD, List.getElem?_append_right (by omega), hA, Nat.sub_self]; rfl
    have e2 : (A ++ x :: B).getD (i + 1 + j) giv0 = B[j] := by
      rw [List.getD_eq_getElem?_getD, List.getElem?_append_right (by omega), hA, show i + 1 + j - i = j + 1 by omega, List.getElem?_cons_succ, List.getElem?_eq_getElem hj]; rfl
    have hk : x.1 = (B[j]).1 := by
      unfold atB at hx hyn
      simp at hx hyn
      exact Prod.ext (hx.1.trans hyn.1.symm) (hx.2.trans hyn.2.symm)
    have hd := h (i + 1 + j) (by simp; omega)
    rw [dup_t (k := i + 1 + j) (i := i) (by omega) (by rw [e1, e2]; exact hk)] at hd
    cases hd
end Go.Proofs.YtkfmadeeobalaaaDoor
