/- What Repairs computes, and that behind it all records pass: the plain law. Conditions: none; plain Lean. -/
import Derived.Test.YtkfmadeeobalaaaDoorI4
import Derived.Test.YtkfmadeeobalaaaDoorS1
namespace Go.Proofs.YtkfmadeeobalaaaDoor
open Go.RowKit
set_option linter.unusedVariables false
theorem wSum_ge {fs : List Fld} {es : List Edt} {n m : Nat} (h : PlOk fs es n m) : ∀ {l : List Int}, (∀ k ∈ l, 0 ≤ k ∧ k < (n : Int)) → (l.length : Int) ≤ wSum fs l
  | [], _ => by simp [wSum]
  | k :: l, hl => by
    have h1 := wts h (hl k (by simp)).1 (hl k (by simp)).2
    have h2 := wSum_ge h (l := l) (fun x hx => hl x (by simp [hx]))
    have e : wSum fs (k :: l) = wOf fs k + wSum fs l := by unfold wSum; simp
    rw [e, List.length_cons]
    omega
section
variable {fs : List Fld} {es : List Edt} {n m : Nat} {rec : List Int}
/-- Where a record passes, no field is to be changed. -/
theorem least_pass (h : PlOk fs es n m) (hr : rec.length = n) (hp : passB fs es rec n m = true) {l : List Int} {lw : Int} (hs : (leastS fs es n m rec).1 = (l, lw, true)) : l = [] := by
  obtain ⟨h1, _, _, _, _, h6⟩ := least_law h hr hs
  have hf := firstS_of (fs := fs) (es := es) (free := []) ((mem_first hr).2 ⟨hr, fun i hi => by rw [if_neg (by simp)]⟩) hp
  have h0 := h6 [] rfl hf
  have h2 := wSum_ge h (l := l) (fun k hk => freeF_zero h1 k hk)
  have h3 : wSum fs [] = 0 := rfl
  exact List.eq_nil_of_length_eq_zero (by omega)
/-- Where any record passes, fields are found. -/
theorem least_found (hp : (allR fs n).any (fun x => passB fs es x n m) = true) : (leastS fs es n m rec).1.2.2 = true := by
  have hI := leastS_inv fs es n m rec
  cases h : (leastS fs es n m rec).1.2.2 with
  | true => rfl
  | false =>
    exfalso
    rw [List.any_eq_true] at hp
    obtain ⟨x, hx, hp⟩ := hp
    exact hI.no h x hx (pass_parts.1 hp).2
end
/-- The donors among the first k records, and their numbers. -/
def donK (fs : List Fld) (es : List Edt) (n m : Nat) (l : List (List Int)) (k : Nat) : List (List Int) := ((List.range k).filter (fun i => passB fs es (l.getD i []) n m)).map (fun i => l.getD i [])
def numK (fs : List Fld) (es : List Edt) (n m : Nat) (l : List (List Int)) (k : Nat) : List Int := ((List.range k).filter (fun i => passB fs es (l.getD i []) n m)).map (fun i : Nat => (i : Int))
section
variable {fs : List Fld} {es : List Edt} {n m k : Nat} {l : List (List Int)}
theorem donK_t (h : passB fs es (l.getD k []) n m = true) : donK fs es n m l (k + 1) = donK fs es n m l k ++ [l.getD k []] := by
  have e : List.filter (fun i => passB fs es (l.getD i []) n m) [k] = [k] := by rw [List.filter_cons_of_pos (by exact h)]; rfl
  unfold donK; rw [List.range_succ, List.filter_append, List.map_append, e]; rfl
theorem donK_f (h : passB fs es (l.getD k []) n m = false) : donK fs es n m l (k + 1) = donK fs es n m l k := by
  have e : List.filter (fun i => passB fs es (l.getD i []) n m) [k] = [] := by rw [List.filter_cons_of_neg (by rw [h]; simp)]; rfl
  unfold donK; rw [List.range_succ, List.filter_append, List.map_append, e]; simp
theorem numK_t (h : passB fs es (l.getD k []) n m = true) : numK fs es n m l (k + 1) = numK fs es n m l k ++ [(k : Int)] := by
  have e : List.filter (fun i => passB fs es (l.getD i []) n m) [k] = [k] := by rw [List.filter_cons_of_pos (by exact h)]; rfl
  unfold numK; rw [List.range_succ, List.filter_append, List.map_append, e]; rfl
theorem numK_f (h : passB fs es (l.getD k []) n m = false) : numK fs es n m l (k + 1) = numK fs es n m l k := by
  have e : List.filter (fun i => passB fs es (l.getD i []) n m) [k] = [] := by rw [List.filter_cons_of_neg (by rw [h]; simp)]; rfl
  unfold numK; rw [List.range_succ, List.filter_append, List.map_append, e]; simp
theorem donK_len : (donK fs es n m l k).length ≤ k := by
  unfold donK; rw [List.length_map]; exact Nat.le_trans (List.length_filter_le _ _) (by simp)
theorem numK_len : (numK fs es n m l k).length = (donK fs es n m l k).length := by unfold numK donK; simp
theorem numK_le : (numK fs es n m l k).length ≤ k := by rw [numK_len]; exact donK_len
/-- A donor is the record of its number. -/
theorem num_don {j : Nat} (h : j < (donK fs es n m l k).length) : ∃ i : Nat, i < k ∧ (numK fs es n m l k).getD j 0 = i ∧ (donK fs es n m l k).getD j [] = l.getD i [] ∧ passB fs es (l.getD i []) n m = true := by
  have hj : j < ((List.range k).filter (fun i => passB fs es (l.getD i []) n m)).length := by unfold donK at h; simpa using h
  refine ⟨((List.range k).filter (fun i => passB fs es (l.getD i []) n m)).getD j 0, ?_, ?_, ?_, ?_⟩
  · have hm : ((List.range k).filter (fun i => passB fs es (l.getD i []) n m)).getD j 0 ∈ (List.range k).filter (fun i => passB fs es (l.getD i []) n m) := by rw [getD_elem0 _ _ _ hj]; exact List.getElem_mem _
    exact List.mem_range.1 (List.mem_filter.1 hm).1
  · unfold numK; exact getD_map0 _ _ _ 0 hj
  · unfold donK; exact getD_map0 _ _ _ 0 hj
  · have hm : ((List.range k).filter (fun i => passB fs es (l.getD i []) n m)).getD j 0 ∈ (List.range k).filter (fun i => passB fs es (l.getD i []) n m) := by rw [getD_elem0 _ _ _ hj]; exact List.getElem_mem _
    exact (List.mem_filter.1 hm).2
end
/-- The seed of a record's repair. -/
def seedI (seed : ByteArray) (i : Nat) : ByteArray := (seed ++ ⟨#[46]⟩) ++ itoaB i
/-- The repair of a record of a list. -/
noncomputable def repI (fs : List Fld) (es : List Edt) (n m : Nat) (l : List (List Int)) (seed : ByteArray) (N i : Nat) : Rpr :=
  ((impR fs es n m (l.getD i []) (leastS fs es n m (l.getD i [])).1.1 (donK fs es n m l N) (shufF (seedI seed i) (donK fs es n m l N).length)).1,
   (leastS fs es n m (l.getD i [])).1.1,
   if 0 ≤ (impR fs es n m (l.getD i []) (leastS fs es n m (l.getD i [])).1.1 (donK fs es n m l N) (shufF (seedI seed i) (donK fs es n m l N).length)).2 then (numK fs es n m l N).getD (impR fs es n m (l.getD i []) (leastS fs es n m (l.getD i [])).1.1 (donK fs es n m l N) (shufF (seedI seed i) (donK fs es n m l N).length)).2.toNat 0
   else (impR fs es n m (l.getD i []) (leastS fs es n m (l.getD i [])).1.1 (donK fs es n m l N) (shufF (seedI seed i) (donK fs es n m l N).length)).2)
/-- What holds of impute's record and donor. -/
theorem impR_ok {fs : List Fld} {es : List Edt} {n m : Nat} (h : PlOk fs es n m) {rec : List Int} (hr : rec.length = n) {f : List Int} {lw : Int} (hs : (leastS fs es n m rec).1 = (f, lw, true)) {ds : List (List Int)} {order : List Int} (ho : ∀ k ∈ order, 0 ≤ k ∧ k < (ds.length : Int)) :
    passB fs es (impR fs es n m rec f ds order).1 n m = true ∧ (impR fs es n m rec f ds order).1.length = n ∧ -1 ≤ (impR fs es n m rec f ds order).2 ∧ (impR fs es n m rec f ds order).2 < (ds.length : Int) ∧ (0 ≤ (impR fs es n m rec f ds order).2 → passB fs es (ds.getD (impR fs es n m rec f ds order).2.toNat []) n m = true) ∧ (f = [] → (impR fs es n m rec f ds order).1 = rec) := by
  obtain ⟨h1, h2, h3, h4, h5, _⟩ := least_law h hr hs
  have hk := impF_ok (fs := fs) (es := es) (n := n) (m := m) (rec := rec) (fields := f) (ds := ds) (r0 := rec) order (rec, -1, 0) ho (IOk.start rec)
  have hl := impR_len (fs := fs) (es := es) (n := n) (m := m) (rec := rec) (fields := f) (ds := ds) (order := order) hr (fun _ => h4) ho
  unfold impR at hl ⊢
  split at hl
  · next h0 =>
    have hf : f = [] := List.eq_nil_of_length_eq_zero h0
    subst hf
    obtain ⟨k1, k2⟩ := firstS_none hr h2
    rw [if_pos h0]
    exact ⟨k2, hr, by simp, by simp; omega, fun q => by simp at q, fun _ => rfl⟩
  · next h0 =>
    rw [if_neg h0]
    split at hl
    · next h7 =>
      rw [if_pos h7]
      refine ⟨h5, hl, hk.lo, hk.hi, fun q => ?_, fun q => absurd (by rw [q]; rfl) h0⟩
      have : ¬ 0 ≤ (impF fs es n m rec f ds order (rec, -1, 0)).2.1 := by omega
      exact absurd q this
    · next h7 =>
      rw [if_neg h7]
      have hy := hk.yes (by omega)
      exact ⟨hy.2.1, hl, hk.lo, hk.hi, fun _ => hy.2.2, fun q => absurd (by rw [q]; rfl) h0⟩
/-- Behind Repairs: the record passes; one that passed stays; a donor passes. -/
theorem repI_ok {fs : List Fld} {es : List Edt} {n m : Nat} (h : PlOk fs es n m) {l : List (List Int)} {seed : ByteArray} {N i : Nat} (hp : (allR fs n).any (fun x => passB fs es x n m) = true) (hi : (l.getD i []).length = n) :
    passB fs es (repI fs es n m l seed N i).1 n m = true ∧ (repI fs es n m l seed N i).1.length = n ∧ (passB fs es (l.getD i []) n m = true → (repI fs es n m l seed N i).1 = l.getD i [] ∧ (repI fs es n m l seed N i).2.1 = []) ∧
    (0 ≤ (repI fs es n m l seed N i).2.2 → ∃ j : Nat, j < N ∧ (repI fs es n m l seed N i).2.2 = j ∧ passB fs es (l.getD j []) n m = true) := by
  obtain ⟨f, lw, fo, hs⟩ : ∃ f lw fo, (leastS fs es n m (l.getD i [])).1 = (f, lw, fo) := ⟨_, _, _, rfl⟩
  have hfo := least_found (rec := l.getD i []) hp
  rw [hs] at hfo
  dsimp only at hfo
  subst hfo
  have ho : ∀ k ∈ shufF (seedI seed i) (donK fs es n m l N).length, 0 ≤ k ∧ k < ((donK fs es n m l N).length : Int) := shufF_rng _ _
  obtain ⟨a1, a2, a3, a4, a5, a6⟩ := impR_ok h hi hs ho
  unfold repI
  rw [hs]
  dsimp only
  generalize impR fs es n m (l.getD i []) f (donK fs es n m l N) (shufF (seedI seed i) (donK fs es n m l N).length) = q at *
  refine ⟨a1, a2, fun hpp => ?_, fun hq => ?_⟩
  · have hf := least_pass h hi hpp hs
    exact ⟨a6 hf, hf⟩
  · by_cases hq2 : 0 ≤ q.2
    · rw [if_pos hq2] at hq ⊢
      obtain ⟨j, j1, j2, j3, j4⟩ := num_don (fs := fs) (es := es) (n := n) (m := m) (l := l) (k := N) (j := q.2.toNat) (by omega)
      exact ⟨j, j1, j2, j4⟩
    · rw [if_neg hq2] at hq
      exact absurd hq hq2
end Go.Proofs.YtkfmadeeobalaaaDoor
