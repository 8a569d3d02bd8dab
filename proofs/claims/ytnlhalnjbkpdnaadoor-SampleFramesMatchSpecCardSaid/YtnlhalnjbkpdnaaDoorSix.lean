/- slices.Index and slices.Contains at []string. Conditions: none beyond what the claim form gives. -/
import Derived.Test.YtnlhalnjbkpdnaaDoorBase
import Derived.Test.YtnlhalnjbkpdnaaDoorMap
namespace Go.Proofs.YtnlhalnjbkpdnaaDoor
open Go.RowKit
set_option linter.unusedVariables false
set_option linter.unusedSimpArgs false
theorem getD_elemE (l : List ByteArray) (k : Nat) (h : k < l.length) : l.getD k ByteArray.empty = l[k] := getD_elem0 _ _ _ h
theorem SlV.strsD {φ : Phi} {a : Option Addr} {cap : Nat} {xs : List ByteArray} (h : SlV φ a cap xs) {k n : Nat} (hn : Hid (xs.length = n)) (hk : k < n) :
    ∃ b off, a = some ⟨b, off, none⟩ ∧ ∀ k, k < n → ∀ w, Fz φ w → b < w.heap.size ∧ w.cell? ⟨b, off + k, none⟩ = some (.string (xs.getD k ByteArray.empty)) := by
  obtain ⟨b, off, ha, hc⟩ := h.cellsD ByteArray.empty hn hk
  refine ⟨b, off, ha, fun k hk w hw => ?_⟩
  obtain ⟨cs, h1, hj⟩ := hc k hk
  cases h1
  have j0 := hj 0 (by simp)
  simp [Rep.size] at j0
  exact ⟨hw.lt j0, hw.cell j0⟩
def IxS (xs : List ByteArray) (x : ByteArray) (i : Int) : Prop := (i = -1 ∧ x ∉ xs) ∨ (0 ≤ i ∧ x ∈ xs)
def IxSPost (xs : List ByteArray) (x : ByteArray) (w : World) (e : Ending) (w' : World) : Prop := ∃ i, IxS xs x i ∧ -1 ≤ i ∧ e = .returned (.int .i64 i) ∧ w = w'
theorem IndexS_any (n : Nat) (a : Option Addr) (cap : Nat) (xs : List ByteArray) (x : ByteArray) (w : World) (φ : Phi) (hφ : Fz φ w) (s : SlV φ a cap xs) (hn : Hid (xs.length = n)) (hm : n ≤ 9223372036854775807) :
    Calls Tryd.prog 38 #[.slice a n cap, .string x] w (IxSPost xs x w) := by
  go_enter Tryd.func38, Tryd.ntmps38
  go_wp2
  go_loop [8] (fun i => ∃ k : Nat, k ≤ n ∧ i = .int .i64 k ∧ Hid (∀ i, i < k → xs.getD i ByteArray.empty ≠ x)) (fun i => n - (intOf i).toNat)
  case atStart => exact ⟨0, Nat.zero_le _, rfl, Lib.hid (fun i hi => by omega)⟩
  case round =>
    obtain ⟨k, hk, rfl, hok⟩ := hrel
    by_cases hlt : k < n
    · obtain ⟨b, off, rfl, f⟩ := s.strsD hn hlt
      obtain ⟨hb, c1⟩ := f k hlt w hφ
      have hg : Hid (xs.getD k ByteArray.empty ∈ xs) := Lib.hid (by rw [getD_elemE _ _ (by rw [hn.out]; exact hlt)]; exact List.getElem_mem _)
      have hnx : Hid (xs.getD k ByteArray.empty ≠ x → ∀ i, i < k + 1 → xs.getD i ByteArray.empty ≠ x) := Lib.hid (fun h i hi => by
        by_cases e : i = k
        · subst e; exact h
        · exact hok.out i (by omega))
      clear f
      generalize xs.getD k ByteArray.empty = y at *
      by_cases he : x = y
      · have hb1 := str_eq_t he
        have HE := Lib.hid he
        clear he
        go_wp2
        go_ret
        exact ⟨k, .inr ⟨by omega, by rw [HE.out]; exact hg.out⟩, by omega, rfl, rfl⟩
      · have hb1 := str_eq_f he
        have HE := Lib.hid he
        clear he
        go_wp2
        go_round
        case rel => exact ⟨k + 1, by omega, by go_num, Lib.hid (hnx.out (fun h => HE.out h.symm))⟩
        case measure => (simp [intOf] <;> omega)
    · obtain rfl : k = n := by omega
      go_wp2
      go_ret
      refine ⟨-1, .inl ⟨rfl, fun hm => ?_⟩, by omega, rfl, rfl⟩
      obtain ⟨i, hi, he⟩ := List.getElem_of_mem hm
      exact hok.out i (by rw [← hn.out]; exact hi) (by rw [getD_elemE _ _ hi]; exact he)
theorem ContainsS_b (n : Nat) (a : Option Addr) (cap : Nat) (xs : List ByteArray) (x : ByteArray) (w : World) (φ : Phi) (hφ : Fz φ w) (s : SlV φ a cap xs) (hn : Hid (xs.length = n)) (hm : n ≤ 9223372036854775807) {b : Bool} (hb : Hid (decide (x ∈ xs) = b)) :
    Calls Tryd.prog 25 #[.slice a n cap, .string x] w fun e w' => e = .returned (.bool b) ∧ w = w' := by
  go_enter Tryd.func25, Tryd.ntmps25
  go_wp2_with fail
  refine (IndexS_any n a cap xs x w φ hφ s hn hm).mono ?_
  rintro e w' ⟨i, hi, hi1, rfl, rfl⟩
  have HI := Lib.hid hi
  clear hi
  by_cases h : 0 ≤ i
  · go_wp2
    go_ret
    refine ⟨ret_bool ?_, rfl⟩
    rw [← hb.out, Bool.eq_iff_iff]
    rcases HI.out with h1 | h1
    · omega
    · simp [h1.2]
  · go_wp2
    go_ret
    refine ⟨ret_bool ?_, rfl⟩
    rw [← hb.out, Bool.eq_iff_iff]
    rcases HI.out with h1 | h1
    · simp [h1.2]; omega
    · omega
end Go.Proofs.YtnlhalnjbkpdnaaDoor
