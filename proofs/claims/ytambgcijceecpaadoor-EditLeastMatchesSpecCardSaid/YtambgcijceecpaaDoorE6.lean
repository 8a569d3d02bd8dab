/- slices.Index exactly; boxes of edits. Conditions: none. -/
import Derived.Test.YtambgcijceecpaaDoorE5
import Derived.Test.YtambgcijceecpaaDoorStep
namespace Go.Proofs.YtambgcijceecpaaDoor
open Go.RowKit
set_option linter.unusedVariables false

def idI (xs : List Int) (x : Int) : Int := if x ∈ xs then (xs.idxOf x : Int) else -1
theorem idxOf_at {xs : List Int} {x : Int} {k : Nat} (hk : k < xs.length) (hx : xs.getD k 0 = x) (h : ∀ i, i < k → xs.getD i 0 ≠ x) : xs.idxOf x = k := by
  induction xs generalizing k with
  | nil => simp at hk
  | cons y ys ih =>
    cases k with
    | zero => simp at hx; subst hx; simp
    | succ k =>
      have h0 : y ≠ x := by have := h 0 (by omega); simpa using this
      have hb : (y == x) = false := by simp [h0]
      rw [List.idxOf_cons, hb, cond_false, ih (k := k) (by simpa using hk) (by simpa using hx) (fun i hi => by have := h (i + 1) (by omega); simpa using this)]
theorem Index_ex (n : Nat) (a : Option Addr) (cap : Nat) (xs : List Int) (x : Int) (w : World) (φ : Phi) (hφ : Fz φ w) (s : SlV φ a cap xs) (hn : Hid (xs.length = n)) (hm : n ≤ 9223372036854775807) {q : Int} (hq : idI xs x = q) :
    Calls Tryd.prog 72 #[.slice a n cap, .int .i64 x] w (fun e w' => e = .returned (.int .i64 q) ∧ w = w') := by
  subst hq
  go_enter Tryd.func72, Tryd.ntmps72
  go_wp2
  go_loop [8] (fun i => ∃ k : Nat, k ≤ n ∧ i = .int .i64 k ∧ Hid (∀ i, i < k → xs.getD i 0 ≠ x)) (fun i => n - (intOf i).toNat)
  case atStart => exact ⟨0, Nat.zero_le _, rfl, Lib.hid (fun i hi => by omega)⟩
  case round =>
    obtain ⟨k, hk, rfl, hok⟩ := hrel
    by_cases hlt : k < n
    · obtain ⟨b, off, rfl, f⟩ := s.intsD hn hlt
      obtain ⟨hb, c1⟩ := f k hlt w hφ
      have hmem : Hid (xs.getD k 0 ∈ xs) := Lib.hid (by rw [getD_elem0 _ _ _ (by rw [hn.out]; exact hlt)]; exact List.getElem_mem _)
      have hit := Lib.hid (fun h : xs.getD k 0 = x => idxOf_at (by rw [hn.out]; exact hlt) h hok.out)
      have hnx : Hid (xs.getD k 0 ≠ x → ∀ i, i < k + 1 → xs.getD i 0 ≠ x) := Lib.hid (fun h i hi => by
        by_cases e : i = k
        · subst e; exact h
        · exact hok.out i (by omega))
      clear f
      generalize xs.getD k 0 = y at *
      by_cases he : x = y
      · have hb1 : (x == y) = true := by simp [he]
        have HE := Lib.hid he
        clear he
        go_wp2
        go_ret
        exact ⟨ret_int (by rw [idI, if_pos (by rw [HE.out]; exact hmem.out), hit.out HE.out.symm]), rfl⟩
      · have hb1 : (x == y) = false := by simp [he]
        have HE := Lib.hid he
        clear he
        go_wp2
        go_round
        case rel => exact ⟨k + 1, by omega, by go_num, Lib.hid (hnx.out (fun h => HE.out h.symm))⟩
        case measure => simp [intOf]; omega
    · obtain rfl : k = n := by omega
      go_wp2
      go_ret
      refine ⟨ret_int ?_, rfl⟩
      rw [idI, if_neg]
      intro hm
      obtain ⟨i, hi, he⟩ := List.getElem_of_mem hm
      exact hok.out i (by rw [← hn.out]; exact hi) (by rw [getD_elem0 _ _ _ hi]; exact he)

/-- A word of 32 bits. -/
structure U32 where
  v : Nat
instance : Rep U32 where
  size := 1
  rep := fun _ x cs => cs = [.int .u32 (x.v : Int)]
  len := by intro _ _ _ h; subst h; rfl
  mono := fun _ h => h
  one := by intro _ _ _ h u hu; subst h; simp at hu; subst hu; rfl
abbrev u320 : U32 := ⟨0⟩
theorem SlV.u32D {φ : Phi} {a : Option Addr} {cap : Nat} {xs : List U32} (h : SlV φ a cap xs) {k n : Nat} (hn : Hid (xs.length = n)) (hk : k < n) :
    ∃ b off, a = some ⟨b, off, none⟩ ∧ ∀ k, k < n → ∀ w, Fz φ w → b < w.heap.size ∧ w.cell? ⟨b, off + k, none⟩ = some (.int .u32 ((xs.getD k u320).v : Int)) := by
  obtain ⟨b, off, ha, hc⟩ := h.cellsD u320 hn hk
  refine ⟨b, off, ha, fun k hk w hw => ?_⟩
  obtain ⟨cs, h1, hj⟩ := hc k hk
  cases h1
  have j0 := hj 0 (by simp)
  simp [Rep.size] at j0
  exact ⟨hw.lt j0, hw.cell j0⟩
/-- The bits of the first k codes of a set. -/
def bitK (codes set : List Int) : Nat → Nat
  | 0 => 0
  | k + 1 => bitK codes set k ||| 2 ^ codes.idxOf (set.getD k 0)
def boxK (fs : List Fld) (ss : List (List Int)) (k : Nat) : List U32 := (List.range k).map (fun i => ⟨bitK (fs.getD i fld0).2.1 (ss.getD i []) (ss.getD i []).length⟩)
def boxes (fs : List Fld) (es : List Edt) (k : Nat) : List (List U32) := (List.range k).map (fun i => boxK fs (es.getD i edt0).2 (es.getD i edt0).2.length)
theorem boxK_succ (fs : List Fld) (ss : List (List Int)) (k : Nat) : boxK fs ss (k + 1) = boxK fs ss k ++ [⟨bitK (fs.getD k fld0).2.1 (ss.getD k []) (ss.getD k []).length⟩] := by
  unfold boxK; rw [List.range_succ, List.map_append]; rfl
theorem boxes_succ (fs : List Fld) (es : List Edt) (k : Nat) : boxes fs es (k + 1) = boxes fs es k ++ [boxK fs (es.getD k edt0).2 (es.getD k edt0).2.length] := by
  unfold boxes; rw [List.range_succ, List.map_append]; rfl
theorem boxK_len (fs : List Fld) (ss : List (List Int)) (k : Nat) : (boxK fs ss k).length = k := by unfold boxK; simp
theorem boxes_len (fs : List Fld) (es : List Edt) (k : Nat) : (boxes fs es k).length = k := by unfold boxes; simp
theorem bitK_lt {codes set : List Int} (hc : codes.length ≤ 20) : ∀ {k : Nat}, (∀ i, i < k → set.getD i 0 ∈ codes) → bitK codes set k < 1048576
  | 0, _ => by simp [bitK]
  | k + 1, h => by
    have h1 := bitK_lt hc (k := k) (fun i hi => h i (by omega))
    have h2 : codes.idxOf (set.getD k 0) < 20 := Nat.lt_of_lt_of_le (List.idxOf_lt_length_of_mem (h k (by omega))) hc
    have h3 : 2 ^ codes.idxOf (set.getD k 0) < 2 ^ 20 := Nat.pow_lt_pow_right (by decide) h2
    exact Nat.or_lt_two_pow (n := 20) h1 h3
theorem slU : SliceTy Tryd.prog 108 113 (.int .u32 0) (Rep.size U32) 4 := ⟨Tryd.underlying108, by kernel_rfl, rfl, by decide, by decide⟩
theorem slB : SliceTy Tryd.prog 67 108 (.slice none 0 0) (Rep.size (List U32)) 24 := ⟨Tryd.underlying67, by kernel_rfl, rfl, by decide, by decide⟩
theorem setF_zero {set codes : List Int} (h : setF set codes = 0) : 0 < set.length ∧ ∀ i, i < set.length → set.getD i 0 ∈ codes := by
  unfold setF at h
  split at h
  · cases h
  · next h1 =>
    refine ⟨by omega, fun i hi => ?_⟩
    have := scan_all _ h i hi
    unfold setBad at this
    split at this
    · cases this
    · next h2 => simpa using h2
/-- A plan that is right. -/
structure PlOk (fs : List Fld) (es : List Edt) (n m : Nat) : Prop where
  len : fs.length = n
  elen : es.length = m
  pos : 0 < n ∧ n ≤ 12
  cnt : m ≤ 60
  fld : ∀ i, i < n → fldBad fs i = 0
  mix : prodK fs n ≤ 20000
  edt : ∀ i, i < m → (es.getD i edt0).2.length = n ∧ ∀ j, j < n → setF ((es.getD i edt0).2.getD j []) (fs.getD j fld0).2.1 = 0
theorem planF_zero {fs : List Fld} {es : List Edt} (h : planF fs es = 0) : PlOk fs es fs.length es.length := by
  unfold planF at h
  split at h
  · next h1 => exact absurd h h1
  · next h1 =>
    have h1 : fieldsF fs = 0 := by simpa using h1
    split at h
    · cases h
    · next h2 =>
      have h3 := scan_all _ h
      obtain ⟨q1, q2⟩ := fields_len h1
      unfold fieldsF at h1
      rw [if_neg (by omega), if_neg (by omega)] at h1
      split at h1
      · next h4 => exact absurd h1 h4
      · next h4 =>
        have h5 := scan_all _ (by simpa using h4 : scan (fldBad fs) fs.length = 0)
        split at h1
        · cases h1
        · next h6 =>
          refine ⟨rfl, rfl, ⟨q1, q2⟩, by omega, h5, by omega, fun i hi => ?_⟩
          have := h3 i hi
          unfold edtBad at this
          split at this
          · cases this
          · split at this
            · cases this
            · split at this
              · cases this
              · next h7 =>
                have h7 : (es.getD i edt0).2.length = fs.length := by simpa using h7
                refine ⟨h7, fun j hj => ?_⟩
                exact scan_all _ this j (by omega)
end Go.Proofs.YtambgcijceecpaaDoor
