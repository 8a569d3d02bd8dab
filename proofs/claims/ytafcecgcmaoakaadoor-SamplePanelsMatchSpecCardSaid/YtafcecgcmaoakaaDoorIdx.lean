/- slices.Index and slices.Contains at []int. Conditions: none beyond what the claim form gives. -/
import Derived.Test.YtafcecgcmaoakaaDoorBase
namespace Go.Proofs.YtafcecgcmaoakaaDoor
open Go.RowKit
set_option linter.unusedVariables false
def Ix (xs : List Int) (x : Int) (i : Int) : Prop := (i = -1 ∧ x ∉ xs) ∨ (0 ≤ i ∧ x ∈ xs)
def IxPost (xs : List Int) (x : Int) (w : World) (e : Ending) (w' : World) : Prop := ∃ i, Ix xs x i ∧ -1 ≤ i ∧ e = .returned (.int .i64 i) ∧ w = w'
theorem Index_any (n : Nat) (a : Option Addr) (cap : Nat) (xs : List Int) (x : Int) (w : World) (φ : Phi) (hφ : Fz φ w) (s : SlV φ a cap xs) (hn : Hid (xs.length = n)) (hm : n ≤ 9223372036854775807) :
    Calls Tryd.prog 59 #[.slice a n cap, .int .i64 x] w (IxPost xs x w) := by
  go_enter Tryd.func59, Tryd.ntmps59
  go_wp2
  go_loop [8] (fun i => ∃ k : Nat, k ≤ n ∧ i = .int .i64 k ∧ Hid (∀ i, i < k → xs.getD i 0 ≠ x)) (fun i => n - (intOf i).toNat)
  case atStart => exact ⟨0, Nat.zero_le _, rfl, Lib.hid (fun i hi => by omega)⟩
  case round =>
    obtain ⟨k, hk, rfl, hok⟩ := hrel
    by_cases hlt : k < n
    · obtain ⟨b, off, rfl, f⟩ := s.intsD hn hlt
      obtain ⟨hb, c1⟩ := f k hlt w hφ
      have hg : Hid (xs.getD k 0 ∈ xs) := Lib.hid (by rw [getD_elem0 _ _ _ (by rw [hn.out]; exact hlt)]; exact List.getElem_mem _)
      have hne0 : Hid (xs.getD k 0 = xs.getD k 0) := Lib.hid rfl
      have hnx : Hid (xs.getD k 0 ≠ x → ∀ i, i < k + 1 → xs.getD i 0 ≠ x) := Lib.hid (fun h i hi => by
        by_cases e : i = k
        · subst e; exact h
        · exact hok.out i (by omega))
      clear f
      generalize xs.getD k 0 = y at *
      by_cases he : x = y
      · have hb1 : (x == y) = true := by simp [he]
        have HE := Lib.hid he
        clear he
        go_wp2
        go_ret
        exact ⟨k, .inr ⟨by omega, by rw [HE.out]; exact hg.out⟩, by omega, rfl, rfl⟩
      · have hb1 : (x == y) = false := by simp [he]
        have HE := Lib.hid he
        clear he
        go_wp2
        go_round
        case rel => exact ⟨k + 1, by omega, by go_num, Lib.hid (hnx.out (fun h => HE.out h.symm))⟩
        case measure => simp [intOf]; omega
    · obtain rfl : k = n := by omega
      go_wp2
      go_ret
      refine ⟨-1, .inl ⟨rfl, fun hm => ?_⟩, by omega, rfl, rfl⟩
      obtain ⟨i, hi, he⟩ := List.getElem_of_mem hm
      exact hok.out i (by rw [← hn.out]; exact hi) (by rw [getD_elem0 _ _ _ hi]; exact he)
theorem Contains_any (n : Nat) (a : Option Addr) (cap : Nat) (xs : List Int) (x : Int) (w : World) (φ : Phi) (hφ : Fz φ w) (s : SlV φ a cap xs) (hn : Hid (xs.length = n)) (hm : n ≤ 9223372036854775807) :
    Calls Tryd.prog 36 #[.slice a n cap, .int .i64 x] w fun e w' => e = .returned (.bool (decide (x ∈ xs))) ∧ w = w' := by
  go_enter Tryd.func36, Tryd.ntmps36
  go_wp2_with fail
  refine (Index_any n a cap xs x w φ hφ s hn hm).mono ?_
  rintro e w' ⟨i, hi, hi1, rfl, rfl⟩
  have HI := Lib.hid hi
  clear hi
  by_cases h : 0 ≤ i
  · go_wp2
    go_ret
    refine ⟨ret_bool (decide_eq_true ?_).symm, rfl⟩
    rcases HI.out with h1 | h1
    · omega
    · exact h1.2
  · go_wp2
    go_ret
    have hx : ¬ x ∈ xs := by
      rcases HI.out with h1 | h1
      · exact h1.2
      · omega
    exact ⟨ret_bool (by simp [hx]; omega), rfl⟩
theorem Contains_t (n : Nat) (a : Option Addr) (cap : Nat) (xs : List Int) (x : Int) (w : World) (φ : Phi) (hφ : Fz φ w) (s : SlV φ a cap xs) (hn : Hid (xs.length = n)) (hm : n ≤ 9223372036854775807) (h : x ∈ xs) :
    Calls Tryd.prog 36 #[.slice a n cap, .int .i64 x] w fun e w' => e = .returned (.bool true) ∧ w = w' := by
  have := Contains_any n a cap xs x w φ hφ s hn hm; rwa [decide_eq_true h] at this
theorem Contains_f (n : Nat) (a : Option Addr) (cap : Nat) (xs : List Int) (x : Int) (w : World) (φ : Phi) (hφ : Fz φ w) (s : SlV φ a cap xs) (hn : Hid (xs.length = n)) (hm : n ≤ 9223372036854775807) (h : ¬ x ∈ xs) :
    Calls Tryd.prog 36 #[.slice a n cap, .int .i64 x] w fun e w' => e = .returned (.bool false) ∧ w = w' := by
  have := Contains_any n a cap xs x w φ hφ s hn hm; rwa [decide_eq_false h] at this
def idI (xs : List Int) (x : Int) : Int := if x ∈ xs then (xs.idxOf x : Int) else -1
theorem idxOf_at {xs : List Int} {x : Int} {k : Nat} (hk : k < xs.length) (hx : xs.getD k 0 = x) (h : ∀ i, i < k → xs.getD i 0 ≠ x) : xs.idxOf x = k := by
  induction xs generalizing k with
  | nil => simp at hk
  | cons y ys ih =>
    cases k with
    | zero => simp at hx; subst hx; simp
    | succ k =>
      have h0 : y ≠ x := by have := h 0 (by omega); simpa using this
      have hb : (y == x) = false := by simp [h0]
      rw [List.idxOf_cons, hb, cond_false, ih (k := k) (by simpa using hk) (by simpa using hx) (fun i hi => by have := h (i + 1) (by omega); simpa using this)]
theorem Index_ex (n : Nat) (a : Option Addr) (cap : Nat) (xs : List Int) (x : Int) (w : World) (φ : Phi) (hφ : Fz φ w) (s : SlV φ a cap xs) (hn : Hid (xs.length = n)) (hm : n ≤ 9223372036854775807) {q : Int} (hq : idI xs x = q) :
    Calls Tryd.prog 59 #[.slice a n cap, .int .i64 x] w (fun e w' => e = .returned (.int .i64 q) ∧ w = w') := by
  subst hq
  go_enter Tryd.func59, Tryd.ntmps59
  go_wp2
  go_loop [8] (fun i => ∃ k : Nat, k ≤ n ∧ i = .int .i64 k ∧ Hid (∀ i, i < k → xs.getD i 0 ≠ x)) (fun i => n - (intOf i).toNat)
  case atStart => exact ⟨0, Nat.zero_le _, rfl, Lib.hid (fun i hi => by omega)⟩
  case round =>
    obtain ⟨k, hk, rfl, hok⟩ := hrel
    by_cases hlt : k < n
    · obtain ⟨b, off, rfl, f⟩ := s.intsD hn hlt
      obtain ⟨hb, c1⟩ := f k hlt w hφ
      have hmem : Hid (xs.getD k 0 ∈ xs) := Lib.hid (by rw [getD_elem0 _ _ _ (by rw [hn.out]; exact hlt)]; exact List.getElem_mem _)
      have hit := Lib.hid (fun h : xs.getD k 0 = x => idxOf_at (by rw [hn.out]; exact hlt) h hok.out)
      have hnx : Hid (xs.getD k 0 ≠ x → ∀ i, i < k + 1 → xs.getD i 0 ≠ x) := Lib.hid (fun h i hi => by
        by_cases e : i = k
        · subst e; exact h
        · exact hok.out i (by omega))
      clear f
      generalize xs.getD k 0 = y at *
      by_cases he : x = y
      · have hb1 : (x == y) = true := by simp [he]
        have HE := Lib.hid he
        clear he
        go_wp2
        go_ret
        exact ⟨ret_int (by rw [idI, if_pos (by rw [HE.out]; exact hmem.out), hit.out HE.out.symm]), rfl⟩
      · have hb1 : (x == y) = false := by simp [he]
        have HE := Lib.hid he
        clear he
        go_wp2
        go_round
        case rel => exact ⟨k + 1, by omega, by go_num, Lib.hid (hnx.out (fun h => HE.out h.symm))⟩
        case measure => (simp [intOf] <;> omega)
    · obtain rfl : k = n := by omega
      go_wp2
      go_ret
      refine ⟨ret_int ?_, rfl⟩
      rw [idI, if_neg]
      intro hm
      obtain ⟨i, hi, he⟩ := List.getElem_of_mem hm
      exact hok.out i (by rw [← hn.out]; exact hi) (by rw [getD_elem0 _ _ _ hi]; exact he)
end Go.Proofs.YtafcecgcmaoakaaDoor
