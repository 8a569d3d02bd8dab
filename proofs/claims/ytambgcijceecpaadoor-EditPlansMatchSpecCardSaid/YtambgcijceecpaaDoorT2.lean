/- The walks of strings.Join, codesText and the reference's list. Conditions: the library's table of powers of ten reads as it was laid. -/
import Derived.Test.YtambgcijceecpaaDoorSh3
import Derived.Test.YtambgcijceecpaaDoorT1
namespace Go.Proofs.YtambgcijceecpaaDoor
open Go.RowKit
set_option linter.unusedVariables false
theorem slS : SliceTy Tryd.prog 96 9 (.string ⟨#[]⟩) (Rep.size ByteArray) 16 := ⟨Tryd.underlying96, by kernel_rfl, rfl, by decide, by decide⟩
theorem Join_any {n : Nat} {a : Option Addr} {c : Nat} {xs : List ByteArray} {sep : ByteArray} {w : World} {φ : Phi} (hφ : Fz φ w) (s : SlV φ a c xs) (hn : Hid (xs.length = n)) (hsz : (jn xs sep).size ≤ 140737488355328) (hl : n ≤ 1000000) :
    Calls Tryd.prog 55 #[.slice a n c, .string sep] w (fun e w' => e = .returned (.string (jn xs sep)) ∧ Below w.heap.size w w') := by
  have hn' := hn.out
  subst hn'
  by_cases h0 : xs = []
  · subst h0
    refine (Any.strings_Join_none Tryd.lays156 Tryd.Builder_Extra_156 a c sep w).mono ?_
    rintro e w' ⟨rfl, rfl⟩
    exact ⟨rfl, Below.refl _ _⟩
  · obtain ⟨b, off, ha, hc⟩ := s.at_ h0
    subst ha
    have hcell : ∀ k (hk : k < xs.length), w.cell? ⟨b, off + k, none⟩ = some (.string xs[k]) := fun k hk => by
      obtain ⟨cs, hr, hj⟩ := hc k hk
      cases hr
      have j0 := hj 0 (by simp)
      simp [Rep.size] at j0
      exact hφ.cell j0
    have hpos : 0 < xs.length := List.length_pos_iff.2 h0
    refine (Any.strings_Join Tryd.lays156 Tryd.Builder_Extra_156 b off c xs sep w (fun j x hx => ?_) (World.block_lt_of_cell? w _ (hcell 0 hpos)) (by omega) s.capn ?_).mono ?_
    · obtain ⟨hj, rfl⟩ := List.getElem?_eq_some_iff.1 hx
      exact hcell j hj
    · have : (jn xs sep).size = (Lib.join (xs.map (·.data.toList)) sep.data.toList).length := by
        show (Lib.join (xs.map (·.data.toList)) sep.data.toList).toArray.size = _
        rw [List.size_toArray]
      omega
    · rintro e w' ⟨rfl, hb⟩
      exact ⟨rfl, hb⟩
theorem codesText_any {nc : Nat} {a : Option Addr} {c : Nat} {cs : List Int} {w : World} {φ : Phi} (hφ : Fz φ w) (hp : PowP φ) (s : SlV φ a c cs) (hn : Hid (cs.length = nc)) (hl : nc ≤ 999) (hr : Hid (∀ x ∈ cs, 1 ≤ x ∧ x ≤ 999)) {t : ByteArray} (ht : Hid (codesB cs = t)) :
    Calls Tryd.prog 53 #[.slice a nc c] w (fun e w' => e = .returned (.string t) ∧ Below w.heap.size w w') := by
  have hS0 : Hid (Inv w.heap.size w φ φ w ∧ Own w.heap.size φ w 9 none 0 ((cs.take 0).map itoaB)) := Lib.hid ⟨Inv.start hφ, Own.nil _ _ _ _⟩
  have HP := Lib.hid hp
  go_enter Tryd.func53, Tryd.ntmps53
  go_wp2
  go_loopw [3, 8] (fun v i wr => ∃ (k : Nat) (ao : Option Addr) (co : Nat), k ≤ nc ∧ v = .slice ao k co ∧ i = .int .i64 k ∧ Hid (Inv w.heap.size w φ φ wr ∧ Own w.heap.size φ wr 9 ao co ((cs.take k).map itoaB))) (fun _ i _ => nc - (intOf i).toNat)
  case atStart => exact ⟨0, none, 0, Nat.zero_le _, rfl, rfl, hS0⟩
  case round =>
    clear hS0
    obtain ⟨k, ao, co, hk, rfl, rfl, hS⟩ := hrel
    by_cases hlt : k < nc
    · obtain ⟨b1, o1, rfl, f1⟩ := s.intsD hn hlt
      have d1 := (f1 k hlt wr hS.out.1.fz).2
      have hrg := hr.out (cs.getD k 0) (by rw [getD_elem0 _ _ _ (by rw [hn.out]; exact hlt)]; exact List.getElem_mem _)
      have HT : Hid ((cs.take (k + 1)).map itoaB = (cs.take k).map itoaB ++ [itoaB (cs.getD k 0)]) := Lib.hid (by rw [take_snocD 0 cs k nc hn.out hlt, List.map_append]; rfl)
      have HL : Hid (((cs.take k).map itoaB).length = k) := Lib.hid (by rw [List.length_map, List.length_take, hn.out]; omega)
      generalize cs.getD k 0 = x at *
      clear f1
      go_wp2_with (first
        | (go_at_call 54; refine (Itoa_any x (by omega) (by omega) wr φ hS.out.1.fz HP.out).mono ?_; rintro e w5 ⟨rfl, hb5⟩; have hin := Lib.hid (hS.out.1.callB hb5); have hon := Lib.hid (hS.out.2.callB hb5); clear hb5)
        | (at_builtin; (refine wpList_app1F (α := ByteArray) rfl _ _ 96 rfl slS hin.out ao co _ hon.out _ _ (itoaB x) rfl (by rw [HL.out]; rfl) 1 rfl (by rw [HL.out]; omega) ?_; intro a8 c8 w8 hi8 ho8 hg8 hf8)))
      go_roundw
      case rel => exact ⟨k + 1, a8, c8, by omega, by rw [show min k cs.length = k by have := hn.out; omega], by go_num, by rw [HT.out]; exact Lib.hid ⟨hi8, ho8⟩⟩
      case measure => simp [intOf]; omega
    · obtain rfl : k = nc := by omega
      have hO := hS.out.2
      rw [← hn.out, List.take_length] at hO
      obtain ⟨φ', l', i', s', _⟩ := hO.release hS.out.1
      have S' := Lib.hid s'
      have I' := Lib.hid i'
      have hcs : (codesB cs).size ≤ 140737488355328 := Nat.le_trans (codesB_size (N := 999) (by rw [hn.out]; exact hl) hr.out) (by decide)
      have HCS := Lib.hid hcs
      have HB := Lib.hid hS.out.1.bel
      clear hO l' i' s' hcs hS
      go_wp2_with fail
      refine (Join_any I'.out.fz S'.out (Lib.hid (by rw [List.length_map]; exact hn.out)) HCS.out (by omega)).mono ?_
      rintro e w5 ⟨rfl, hb5⟩
      go_wp2
      go_ret
      exact ⟨congrArg (fun t => Ending.returned (.string t)) ht.out, HB.out.trans (hb5.mono HB.out.size)⟩
theorem Rlist_any {nc : Nat} {a : Option Addr} {c : Nat} {cs : List Int} {w : World} {φ : Phi} (hφ : Fz φ w) (hp : PowP φ) (s : SlV φ a c cs) (hn : Hid (cs.length = nc)) (hl : nc ≤ 999) (hr : Hid (∀ x ∈ cs, 1 ≤ x ∧ x ≤ 999)) {t : ByteArray} (ht : Hid (codesB cs = t)) :
    Calls Tryd.prog 58 #[.slice a nc c] w (fun e w' => e = .returned (.string t) ∧ Below w.heap.size w w') := by
  have hS0 : Hid (Inv w.heap.size w φ φ w ∧ Own w.heap.size φ w 9 none 0 ((cs.take 0).map itoaB)) := Lib.hid ⟨Inv.start hφ, Own.nil _ _ _ _⟩
  have HP := Lib.hid hp
  go_enter Tryd.func58, Tryd.ntmps58
  go_wp2
  go_loopw [3, 8] (fun v i wr => ∃ (k : Nat) (ao : Option Addr) (co : Nat), k ≤ nc ∧ v = .slice ao k co ∧ i = .int .i64 k ∧ Hid (Inv w.heap.size w φ φ wr ∧ Own w.heap.size φ wr 9 ao co ((cs.take k).map itoaB))) (fun _ i _ => nc - (intOf i).toNat)
  case atStart => exact ⟨0, none, 0, Nat.zero_le _, rfl, rfl, hS0⟩
  case round =>
    clear hS0
    obtain ⟨k, ao, co, hk, rfl, rfl, hS⟩ := hrel
    by_cases hlt : k < nc
    · obtain ⟨b1, o1, rfl, f1⟩ := s.intsD hn hlt
      have d1 := (f1 k hlt wr hS.out.1.fz).2
      have hrg := hr.out (cs.getD k 0) (by rw [getD_elem0 _ _ _ (by rw [hn.out]; exact hlt)]; exact List.getElem_mem _)
      have HT : Hid ((cs.take (k + 1)).map itoaB = (cs.take k).map itoaB ++ [itoaB (cs.getD k 0)]) := Lib.hid (by rw [take_snocD 0 cs k nc hn.out hlt, List.map_append]; rfl)
      have HL : Hid (((cs.take k).map itoaB).length = k) := Lib.hid (by rw [List.length_map, List.length_take, hn.out]; omega)
      generalize cs.getD k 0 = x at *
      clear f1
      go_wp2_with (first
        | (go_at_call 54; refine (Itoa_any x (by omega) (by omega) wr φ hS.out.1.fz HP.out).mono ?_; rintro e w5 ⟨rfl, hb5⟩; have hin := Lib.hid (hS.out.1.callB hb5); have hon := Lib.hid (hS.out.2.callB hb5); clear hb5)
        | (at_builtin; (refine wpList_app1F (α := ByteArray) rfl _ _ 96 rfl slS hin.out ao co _ hon.out _ _ (itoaB x) rfl (by rw [HL.out]; rfl) 1 rfl (by rw [HL.out]; omega) ?_; intro a8 c8 w8 hi8 ho8 hg8 hf8)))
      go_roundw
      case rel => exact ⟨k + 1, a8, c8, by omega, by rw [show min k cs.length = k by have := hn.out; omega], by go_num, by rw [HT.out]; exact Lib.hid ⟨hi8, ho8⟩⟩
      case measure => simp [intOf]; omega
    · obtain rfl : k = nc := by omega
      have hO := hS.out.2
      rw [← hn.out, List.take_length] at hO
      obtain ⟨φ', l', i', s', _⟩ := hO.release hS.out.1
      have S' := Lib.hid s'
      have I' := Lib.hid i'
      have hcs : (codesB cs).size ≤ 140737488355328 := Nat.le_trans (codesB_size (N := 999) (by rw [hn.out]; exact hl) hr.out) (by decide)
      have HCS := Lib.hid hcs
      have HB := Lib.hid hS.out.1.bel
      clear hO l' i' s' hcs hS
      go_wp2_with fail
      refine (Join_any I'.out.fz S'.out (Lib.hid (by rw [List.length_map]; exact hn.out)) HCS.out (by omega)).mono ?_
      rintro e w5 ⟨rfl, hb5⟩
      go_wp2
      go_ret
      exact ⟨congrArg (fun t => Ending.returned (.string t)) ht.out, HB.out.trans (hb5.mono HB.out.size)⟩
end Go.Proofs.YtambgcijceecpaaDoor
