/- The text of a plan, and how long it can be: the plain law. Conditions: none; plain Lean. -/
import Derived.Test.YtambgcijceecpaaDoorS1
import Derived.Test.YtambgcijceecpaaDoorE26
import Derived.Lib.Join
namespace Go.Proofs.YtambgcijceecpaaDoor
open Go.RowKit
set_option linter.unusedVariables false
/-- Texts with a separator between them. -/
def jn (xs : List ByteArray) (sep : ByteArray) : ByteArray := ⟨(Lib.join (xs.map (·.data.toList)) sep.data.toList).toArray⟩
def codesB (cs : List Int) : ByteArray := jn (cs.map itoaB) ⟨#[44]⟩
def fldLine (f : Fld) : ByteArray := (((((⟨#[102, 105, 101, 108, 100, 32]⟩ ++ f.1) ++ ⟨#[32]⟩) ++ codesB f.2.1) ++ ⟨#[32, 119, 101, 105, 103, 104, 116, 32]⟩) ++ itoaB f.2.2) ++ ⟨#[10]⟩
def edtPart (f : Fld) (set : List Int) : ByteArray := ((⟨#[32]⟩ ++ f.1) ++ ⟨#[32]⟩) ++ codesB set
def partsK (fs : List Fld) (ss : List (List Int)) (k : Nat) : List ByteArray := ((List.range k).filter (fun i => decide ((ss.getD i []).length < (fs.getD i fld0).2.1.length))).map (fun i => edtPart (fs.getD i fld0) (ss.getD i []))
def edtLine (fs : List Fld) (x : Edt) : ByteArray := (((⟨#[101, 100, 105, 116, 32]⟩ ++ x.1) ++ ⟨#[58]⟩) ++ jn (partsK fs x.2 x.2.length) ⟨#[59]⟩) ++ ⟨#[10]⟩
def fldsK (fs : List Fld) : Nat → ByteArray
  | 0 => ⟨#[]⟩
  | k + 1 => fldsK fs k ++ fldLine (fs.getD k fld0)
def edtsK (fs : List Fld) (es : List Edt) (t : ByteArray) : Nat → ByteArray
  | 0 => t
  | k + 1 => edtsK fs es t k ++ edtLine fs (es.getD k edt0)
def textB (fs : List Fld) (es : List Edt) : ByteArray := edtsK fs es (fldsK fs fs.length) es.length
/-- What Text hands back. -/
def textR (fs : List Fld) (es : List Edt) (F : Int) : ByteArray × Int := if F ≠ 0 then (⟨#[]⟩, F) else if 60000 < (textB fs es).size then (⟨#[]⟩, 2) else (textB fs es, 0)
theorem partsK_t {fs : List Fld} {ss : List (List Int)} {k : Nat} (h : (ss.getD k []).length < (fs.getD k fld0).2.1.length) : partsK fs ss (k + 1) = partsK fs ss k ++ [edtPart (fs.getD k fld0) (ss.getD k [])] := by
  have e : List.filter (fun i => decide ((ss.getD i []).length < (fs.getD i fld0).2.1.length)) [k] = [k] := by rw [List.filter_cons_of_pos (by exact decide_eq_true h)]; rfl
  unfold partsK; rw [List.range_succ, List.filter_append, List.map_append, e]; rfl
theorem partsK_f {fs : List Fld} {ss : List (List Int)} {k : Nat} (h : ¬ (ss.getD k []).length < (fs.getD k fld0).2.1.length) : partsK fs ss (k + 1) = partsK fs ss k := by
  have e : List.filter (fun i => decide ((ss.getD i []).length < (fs.getD i fld0).2.1.length)) [k] = [] := by rw [List.filter_cons_of_neg (by rw [decide_eq_true_iff]; exact h)]; rfl
  unfold partsK; rw [List.range_succ, List.filter_append, List.map_append, e]; simp
theorem partsK_len {fs : List Fld} {ss : List (List Int)} {k : Nat} : (partsK fs ss k).length ≤ k := by
  unfold partsK; rw [List.length_map]; exact Nat.le_trans (List.length_filter_le _ _) (by simp)
theorem partsK_mem {fs : List Fld} {ss : List (List Int)} {k : Nat} {x : ByteArray} (h : x ∈ partsK fs ss k) : ∃ i, i < k ∧ x = edtPart (fs.getD i fld0) (ss.getD i []) := by
  unfold partsK at h
  obtain ⟨i, hi, rfl⟩ := List.mem_map.1 h
  exact ⟨i, List.mem_range.1 (List.mem_filter.1 hi).1, rfl⟩
theorem joinTail_le {r : List (List UInt8)} {sep : List UInt8} {M : Nat} (h : ∀ x ∈ r, x.length ≤ M) : (Lib.joinTail sep r).length ≤ r.length * (M + sep.length) := by
  unfold Lib.joinTail
  induction r with
  | nil => simp
  | cons x r ih =>
    have h1 := h x (by simp)
    have h2 := ih (fun y hy => h y (by simp [hy]))
    rw [List.map_cons, List.flatten_cons, List.length_append, List.length_append, List.length_cons, Nat.add_mul, Nat.one_mul]
    omega
theorem jn_size {xs : List ByteArray} {sep : ByteArray} {M : Nat} (h : ∀ x ∈ xs, x.size ≤ M) : (jn xs sep).size ≤ xs.length * (M + sep.size) := by
  show (Lib.join (xs.map (·.data.toList)) sep.data.toList).toArray.size ≤ _
  rw [List.size_toArray]
  cases xs with
  | nil => simp [Lib.join_nil]
  | cons x r =>
    rw [List.map_cons, Lib.join_cons, List.length_append]
    have h1 : x.data.toList.length ≤ M := h x (by simp)
    have h2 := joinTail_le (r := r.map (·.data.toList)) (sep := sep.data.toList) (M := M) (fun y hy => by
      obtain ⟨z, hz, rfl⟩ := List.mem_map.1 hy
      exact h z (by simp [hz]))
    rw [List.length_map] at h2
    have h3 : sep.data.toList.length = sep.size := rfl
    rw [h3] at h2
    rw [List.length_cons, Nat.add_mul, Nat.one_mul]
    omega
theorem codesB_size {cs : List Int} {N : Nat} (hl : cs.length ≤ N) (h : ∀ x ∈ cs, 1 ≤ x ∧ x ≤ 999) : (codesB cs).size ≤ N * 9 := by
  have h1 := jn_size (xs := cs.map itoaB) (sep := ⟨#[44]⟩) (M := 8) (fun x hx => by
    obtain ⟨z, hz, rfl⟩ := List.mem_map.1 hx
    have := h z hz
    exact itoaB_size (by omega) (by omega))
  rw [List.length_map] at h1
  have h2 : (⟨#[44]⟩ : ByteArray).size = 1 := rfl
  rw [h2] at h1
  have h3 : cs.length * 9 ≤ N * 9 := Nat.mul_le_mul_right _ hl
  exact Nat.le_trans h1 h3
/-- A set that is right has no more than 999 codes. -/
theorem rise_len {l : List Int} (h : ∀ x ∈ l, 1 ≤ x ∧ x ≤ 999) (hs : ∀ i, 0 < i → i < l.length → l.getD (i - 1) 0 < l.getD i 0) : l.length ≤ 999 := by
  have hg : ∀ i, i < l.length → (i : Int) + 1 ≤ l.getD i 0 := by
    intro i
    induction i with
    | zero =>
      intro hi
      have := h (l.getD 0 0) (by rw [getD_elem0 _ _ _ hi]; exact List.getElem_mem _)
      omega
    | succ i ih =>
      intro hi
      have h1 := ih (by omega)
      have h2 := hs (i + 1) (by omega) hi
      rw [Nat.add_sub_cancel] at h2
      omega
  rcases Nat.eq_zero_or_pos l.length with h0 | h0
  · omega
  · have h1 := hg (l.length - 1) (by omega)
    have h2 := h (l.getD (l.length - 1) 0) (by rw [getD_elem0 _ _ _ (by omega)]; exact List.getElem_mem _)
    omega
theorem setF_rise {set codes : List Int} (h : setF set codes = 0) : ∀ i, 0 < i → i < set.length → set.getD (i - 1) 0 < set.getD i 0 := by
  unfold setF at h
  split at h
  · cases h
  · intro i h0 hi
    have := scan_all _ h i hi
    unfold setBad at this
    split at this
    · cases this
    · split at this
      · cases this
      · next h3 =>
        rcases Int.lt_or_le (set.getD (i - 1) 0) (set.getD i 0) with h4 | h4
        · exact h4
        · exact absurd ⟨h0, h4⟩ h3
/-- How long the pieces are, where the plan is right. -/
structure TxOk (fs : List Fld) (es : List Edt) : Prop where
  nm : ∀ i, i < fs.length → (fs.getD i fld0).1.size ≤ 16
  cs : ∀ i, i < fs.length → (codesB (fs.getD i fld0).2.1).size ≤ 180 ∧ (fs.getD i fld0).2.1.length ≤ 20 ∧ ∀ x ∈ (fs.getD i fld0).2.1, 1 ≤ x ∧ x ≤ 999
  wt : ∀ i, i < fs.length → 1 ≤ (fs.getD i fld0).2.2 ∧ (fs.getD i fld0).2.2 ≤ 1000
  en : ∀ i, i < es.length → (es.getD i edt0).1.size ≤ 16
  st : ∀ i, i < es.length → (es.getD i edt0).2.length = fs.length ∧ ∀ j, j < fs.length → (codesB ((es.getD i edt0).2.getD j [])).size ≤ 8991 ∧ ((es.getD i edt0).2.getD j []).length ≤ 999 ∧ ∀ x ∈ (es.getD i edt0).2.getD j [], 1 ≤ x ∧ x ≤ 999
  n : fs.length ≤ 12
  m : es.length ≤ 60
theorem nameB_size {s : ByteArray} (h : nameB s = true) : s.size ≤ 16 := by
  unfold nameB at h
  exact (@of_decide_eq_true _ (Classical.propDecidable _) h : nameP s).2.1
theorem txOk {fs : List Fld} {es : List Edt} (h : planF fs es = 0) : TxOk fs es := by
  have OK := planF_zero h
  have hcd : ∀ i, i < fs.length → (fs.getD i fld0).2.1.length ≤ 20 ∧ ∀ x ∈ (fs.getD i fld0).2.1, 1 ≤ x ∧ x ≤ 999 := fun i hi => by
    obtain ⟨_, h2, h3, _⟩ := fieldF_zero (fldBad_zero (OK.fld i hi)).2.2
    refine ⟨h2, fun x hx => ?_⟩
    obtain ⟨k, hk, rfl⟩ := List.getElem_of_mem hx
    have := h3 k hk
    unfold codeBad at this
    rw [getD_elem0 _ _ _ hk] at this
    split at this
    · cases this
    · next h4 => exact outB_false.1 (by simpa using h4)
  have hen : ∀ i, i < es.length → nameB (es.getD i edt0).1 = true := fun i hi => by
    have h2 := h
    unfold planF at h2
    split at h2
    · next h3 => exact absurd h2 h3
    · split at h2
      · cases h2
      · have := scan_all _ h2 i hi
        unfold edtBad at this
        split at this
        · cases this
        · next h4 => simpa using h4
  refine ⟨fun i hi => nameB_size (fldBad_zero (OK.fld i hi)).1, fun i hi => ⟨codesB_size (hcd i hi).1 (hcd i hi).2, hcd i hi⟩, fun i hi => ?_, fun i hi => nameB_size (hen i hi), fun i hi => ?_, OK.pos.2, OK.cnt⟩
  · exact outB_false.1 (fieldF_zero (fldBad_zero (OK.fld i hi)).2.2).2.2.2
  · obtain ⟨h1, h2⟩ := OK.edt i hi
    refine ⟨h1, fun j hj => ?_⟩
    have h3 := h2 j hj
    have h4 : ∀ x ∈ (es.getD i edt0).2.getD j [], 1 ≤ x ∧ x ≤ 999 := fun x hx => by
      obtain ⟨k, hk, rfl⟩ := List.getElem_of_mem hx
      have := (setF_zero h3).2 k hk
      rw [getD_elem0 _ _ _ hk] at this
      exact (hcd j hj).2 _ this
    have h5 := rise_len h4 (setF_rise h3)
    exact ⟨codesB_size h5 h4, h5, h4⟩
theorem fldLine_size {f : Fld} (h1 : f.1.size ≤ 16) (h2 : (codesB f.2.1).size ≤ 180) (h3 : 1 ≤ f.2.2 ∧ f.2.2 ≤ 1000) : (fldLine f).size ≤ 300 := by
  have h4 := itoaB_size (n := f.2.2) (by omega) (by omega)
  unfold fldLine
  simp only [ByteArray.size_append]
  have e1 : (⟨#[102, 105, 101, 108, 100, 32]⟩ : ByteArray).size = 6 := rfl
  have e2 : (⟨#[32]⟩ : ByteArray).size = 1 := rfl
  have e3 : (⟨#[32, 119, 101, 105, 103, 104, 116, 32]⟩ : ByteArray).size = 8 := rfl
  have e4 : (⟨#[10]⟩ : ByteArray).size = 1 := rfl
  omega
theorem fldsK_size {fs : List Fld} {es : List Edt} (h : TxOk fs es) : ∀ k, k ≤ fs.length → (fldsK fs k).size ≤ k * 300
  | 0, _ => by show (⟨#[]⟩ : ByteArray).size ≤ _; exact Nat.zero_le _
  | k + 1, hk => by
    have h1 := fldsK_size h k (by omega)
    have h2 := fldLine_size (h.nm k hk) (h.cs k hk).1 (h.wt k hk)
    rw [fldsK, ByteArray.size_append]
    omega
theorem edtPart_size {f : Fld} {set : List Int} (h1 : f.1.size ≤ 16) (h2 : (codesB set).size ≤ 8991) : (edtPart f set).size ≤ 9010 := by
  unfold edtPart
  simp only [ByteArray.size_append]
  have e2 : (⟨#[32]⟩ : ByteArray).size = 1 := rfl
  omega
theorem parts_size {fs : List Fld} {es : List Edt} (h : TxOk fs es) {i : Nat} (hi : i < es.length) {k : Nat} (hk : k ≤ fs.length) : (jn (partsK fs (es.getD i edt0).2 k) ⟨#[59]⟩).size ≤ 120000 := by
  have h1 := jn_size (xs := partsK fs (es.getD i edt0).2 k) (sep := ⟨#[59]⟩) (M := 9010) (fun x hx => by
    obtain ⟨j, hj, rfl⟩ := partsK_mem hx
    exact edtPart_size (h.nm j (by omega)) ((h.st i hi).2 j (by omega)).1)
  have h2 : (partsK fs (es.getD i edt0).2 k).length ≤ 12 := Nat.le_trans partsK_len (Nat.le_trans hk h.n)
  have e2 : (⟨#[59]⟩ : ByteArray).size = 1 := rfl
  rw [e2] at h1
  have h3 := Nat.mul_le_mul_right (9010 + 1) h2
  omega
theorem edtLine_size {fs : List Fld} {es : List Edt} (h : TxOk fs es) {i : Nat} (hi : i < es.length) : (edtLine fs (es.getD i edt0)).size ≤ 121000 := by
  have h1 := h.en i hi
  have h2 := parts_size h hi (k := (es.getD i edt0).2.length) (Nat.le_of_eq (h.st i hi).1)
  unfold edtLine
  simp only [ByteArray.size_append]
  have e1 : (⟨#[101, 100, 105, 116, 32]⟩ : ByteArray).size = 5 := rfl
  have e2 : (⟨#[58]⟩ : ByteArray).size = 1 := rfl
  have e4 : (⟨#[10]⟩ : ByteArray).size = 1 := rfl
  omega
theorem edtsK_size {fs : List Fld} {es : List Edt} (h : TxOk fs es) : ∀ k, k ≤ es.length → (edtsK fs es (fldsK fs fs.length) k).size ≤ 3600 + k * 121000
  | 0, _ => by
    have h1 := fldsK_size h fs.length (Nat.le_refl _)
    have h2 := h.n
    show (fldsK fs fs.length).size ≤ _
    omega
  | k + 1, hk => by
    have h1 := edtsK_size h k (by omega)
    have h2 := edtLine_size h hk
    rw [edtsK, ByteArray.size_append]
    omega
end Go.Proofs.YtambgcijceecpaaDoor
