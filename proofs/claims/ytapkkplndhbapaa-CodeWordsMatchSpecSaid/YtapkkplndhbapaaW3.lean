/- The rows of a text: the walk on the reference's side. Conditions: none beyond what the claim form gives. -/
import Derived.Test.YtapkkplndhbapaaW2
namespace Go.Proofs.Ytapkkplndhbapaa
open Go.RowKit
set_option linter.unusedVariables false
theorem app_bytes (wd : List UInt8) (c : UInt8) : (⟨wd.toArray⟩ : ByteArray) ++ ⟨#[c]⟩ = ⟨(wd ++ [c]).toArray⟩ := by
  apply ByteArray.ext
  simp [ByteArray.data_append]
theorem bytes_empty (wd : List UInt8) : (⟨wd.toArray⟩ : ByteArray).toList.isEmpty = decide (wd.length = 0) := by
  rw [isEmpty_iff]
  congr 1
set_option maxRecDepth 100000 in
set_option maxHeartbeats 2000000 in
theorem Rrows_any (s : ByteArray) (w : World) (φ : Phi) (hφ : Fz φ w) (hs : s.size ≤ 1000) :
    Calls Try.prog 22 #[.string s] w (SlPost1 (rowsF s) φ w) := by
  go_enter Try.func22, Try.ntmps22
  have hS0 : Hid (OwSt w φ 9 none 0 ([] : List ByteArray) w) := Lib.hid ⟨Inv.start hφ, Own.nil _ _ _ _⟩
  go_wp2
  go_loopw [3, 4, 10] (fun o v i wr => ∃ (k : Nat) (ao : Option Addr) (co : Nat) (out : List ByteArray) (wd : List UInt8), k ≤ s.size + 1 ∧ i = .int .i64 k ∧ o = .slice ao out.length co ∧ v = .string ⟨wd.toArray⟩ ∧ Hid (rowSt s k = (out, wd)) ∧ out.length ≤ k ∧ wd.length ≤ k ∧ Hid (OwSt w φ 9 ao co out wr)) (fun _ _ i _ => s.size + 1 - (intOf i).toNat)
  case atStart => exact ⟨0, none, 0, [], [], Nat.zero_le _, rfl, rfl, rfl, Lib.hid rfl, Nat.zero_le _, Nat.zero_le _, hS0⟩
  case round =>
    clear hS0
    obtain ⟨k, ao, co, out, wd, hk, rfl, rfl, rfl, hst, hlo, hlw, hS⟩ := hrel
    by_cases hle : k < s.size + 1
    · have hin := Lib.hid hS.out.inv
      have hon := Lib.hid hS.out.own
      have hem := bytes_empty wd
      have htz : (⟨wd.toArray⟩ : ByteArray).size = wd.length := by show wd.toArray.size = _; simp
      have hcat := fun m => Lib.hid (app_bytes wd (bOf m))
      have hte : Hid ((⟨wd.toArray⟩ : ByteArray) = ⟨wd.toArray⟩) := Lib.hid rfl
      by_cases hlt : k < s.size
      · have hb := byt_bd s k
        have hek := Lib.hid (byt_eq s k hlt)
        have hd0 : ((s[k]'hlt).toNat : Int) < 256 := by rw [← hek.out]; omega
        have hd1 : 0 ≤ ((s[k]'hlt).toNat : Int) := by omega
        have hcm : Hid (chr s k = lowN ((s[k]'hlt).toNat : Int)) := Lib.hid (by rw [chr_in hlt, hek.out])
        by_cases h1 : 65 ≤ ((s[k]'hlt).toNat : Int) ∧ ((s[k]'hlt).toNat : Int) ≤ 90
        · obtain ⟨h1, h2⟩ := h1
          have hlw2 : lowN ((s[k]'hlt).toNat : Int) = ((s[k]'hlt).toNat : Int) + 32 := if_pos ⟨h1, h2⟩
          rw [hlw2] at hcm
          clear hlw2
          have hq2 : 97 ≤ ((s[k]'hlt).toNat : Int) + 32 := by omega
          have hq3 : ((s[k]'hlt).toNat : Int) + 32 ≤ 122 := by omega
          have hsn := str_new wr (((s[k]'hlt).toNat : Int) + 32) (by omega) (by omega) 5
          all_goals go_wp2
          all_goals first
            | (go_roundw
               case rel => exact ⟨k + 1, ao, co, out, wd ++ [bOf (((s[k]'hlt).toNat : Int) + 32)], by omega, by go_num, rfl, congrArg Value.string (app_bytes _ _), by rw [← hcm.out]; exact rowSt_word hst (by rw [hcm.out]; unfold wbB; simp; omega), by omega, by simp; omega, Lib.hid (hS.out.alloc _)⟩
               case measure => (simp [intOf] <;> omega))
        · have hlw2 : lowN ((s[k]'hlt).toNat : Int) = ((s[k]'hlt).toNat : Int) := if_neg h1
          rw [hlw2] at hcm
          clear hlw2
          by_cases h65 : 65 ≤ ((s[k]'hlt).toNat : Int)
          · have h90 : ¬ ((s[k]'hlt).toNat : Int) ≤ 90 := fun h => h1 ⟨h65, h⟩
            obtain ⟨q, hq⟩ : ∃ q, Hid (wbB (((s[k]'hlt).toNat : Int)) = q) := ⟨_, Lib.hid rfl⟩
            cases q
            · have HQ : Hid (wbB (chr s k) = false) := Lib.hid (by rw [hcm.out]; exact hq.out)
              have hq1 := hq.out
              unfold wbB at hq1
              have hq2 : ¬ (97 ≤ (((s[k]'hlt).toNat : Int)) ∧ (((s[k]'hlt).toNat : Int)) ≤ 122) ∧ ¬ (48 ≤ (((s[k]'hlt).toNat : Int)) ∧ (((s[k]'hlt).toNat : Int)) ≤ 57) := by simp at hq1; omega
              obtain ⟨hq2, hq3⟩ := hq2
              clear hq1
              by_cases hw0 : wd.length = 0
              · have hwd : Hid (wd = []) := Lib.hid (List.eq_nil_of_length_eq_zero hw0)
                rw [decide_eq_true hw0] at hem
                have he2 := List.isEmpty_iff.1 hem
                clear hw0
                go_wp2
                all_goals first
                  | (go_roundw
                     case rel =>
                       obtain rfl := hwd.out
                       exact ⟨k + 1, ao, co, out, [], by omega, by go_num, rfl, rfl, rowSt_skip hst HQ.out, by omega, by simp, hS⟩
                     case measure => (simp [intOf] <;> omega))
              · have hwd : wd ≠ [] := fun h => hw0 (by rw [h]; rfl)
                rw [decide_eq_false hw0] at hem
                have hst2 := rowSt_end hst HQ.out hwd
                clear hwd
                generalize (⟨wd.toArray⟩ : ByteArray) = t at *
                go_wp2_with (at_builtin; (refine wpList_app1F (α := ByteArray) rfl _ _ 23 rfl slS hin.out ao co _ hon.out _ _ t rfl rfl 1 rfl (by omega) ?_; intro a8 c8 w8 hi8 ho8 hg8 hf8))
                all_goals first
                  | (go_roundw
                     case rel => exact ⟨k + 1, a8, c8, out ++ [t], [], by omega, by go_num, by simp, rfl, hst2, by simp; omega, by simp, Lib.hid ⟨hi8, ho8⟩⟩
                     case measure => (simp [intOf] <;> omega))
            · have hq1 := hq.out
              unfold wbB at hq1
              have hq2 : (97 ≤ (((s[k]'hlt).toNat : Int)) ∧ (((s[k]'hlt).toNat : Int)) ≤ 122) ∨ (48 ≤ (((s[k]'hlt).toNat : Int)) ∧ (((s[k]'hlt).toNat : Int)) ≤ 57) := by simp at hq1; omega
              clear hq1
              rcases hq2 with ⟨hq2, hq3⟩ | ⟨hq2, hq3⟩
              · have hsn := str_new wr (((s[k]'hlt).toNat : Int)) (by omega) (by omega) 5
                all_goals go_wp2
                all_goals first
                  | (go_roundw
                     case rel => exact ⟨k + 1, ao, co, out, wd ++ [bOf (((s[k]'hlt).toNat : Int))], by omega, by go_num, rfl, congrArg Value.string (app_bytes _ _), by rw [← hcm.out]; exact rowSt_word hst (by rw [hcm.out]; unfold wbB; simp; omega), by omega, by simp; omega, Lib.hid (hS.out.alloc _)⟩
                     case measure => (simp [intOf] <;> omega))
              · have hsn := str_new wr (((s[k]'hlt).toNat : Int)) (by omega) (by omega) 5
                all_goals go_wp2
                all_goals first
                  | (go_roundw
                     case rel => exact ⟨k + 1, ao, co, out, wd ++ [bOf (((s[k]'hlt).toNat : Int))], by omega, by go_num, rfl, congrArg Value.string (app_bytes _ _), by rw [← hcm.out]; exact rowSt_word hst (by rw [hcm.out]; unfold wbB; simp; omega), by omega, by simp; omega, Lib.hid (hS.out.alloc _)⟩
                     case measure => (simp [intOf] <;> omega))
          · obtain ⟨q, hq⟩ : ∃ q, Hid (wbB (((s[k]'hlt).toNat : Int)) = q) := ⟨_, Lib.hid rfl⟩
            cases q
            · have HQ : Hid (wbB (chr s k) = false) := Lib.hid (by rw [hcm.out]; exact hq.out)
              have hq1 := hq.out
              unfold wbB at hq1
              have hq2 : ¬ (97 ≤ (((s[k]'hlt).toNat : Int)) ∧ (((s[k]'hlt).toNat : Int)) ≤ 122) ∧ ¬ (48 ≤ (((s[k]'hlt).toNat : Int)) ∧ (((s[k]'hlt).toNat : Int)) ≤ 57) := by simp at hq1; omega
              obtain ⟨hq2, hq3⟩ := hq2
              clear hq1
              by_cases hw0 : wd.length = 0
              · have hwd : Hid (wd = []) := Lib.hid (List.eq_nil_of_length_eq_zero hw0)
                rw [decide_eq_true hw0] at hem
                have he2 := List.isEmpty_iff.1 hem
                clear hw0
                go_wp2
                all_goals first
                  | (go_roundw
                     case rel =>
                       obtain rfl := hwd.out
                       exact ⟨k + 1, ao, co, out, [], by omega, by go_num, rfl, rfl, rowSt_skip hst HQ.out, by omega, by simp, hS⟩
                     case measure => (simp [intOf] <;> omega))
              · have hwd : wd ≠ [] := fun h => hw0 (by rw [h]; rfl)
                rw [decide_eq_false hw0] at hem
                have hst2 := rowSt_end hst HQ.out hwd
                clear hwd
                generalize (⟨wd.toArray⟩ : ByteArray) = t at *
                go_wp2_with (at_builtin; (refine wpList_app1F (α := ByteArray) rfl _ _ 23 rfl slS hin.out ao co _ hon.out _ _ t rfl rfl 1 rfl (by omega) ?_; intro a8 c8 w8 hi8 ho8 hg8 hf8))
                all_goals first
                  | (go_roundw
                     case rel => exact ⟨k + 1, a8, c8, out ++ [t], [], by omega, by go_num, by simp, rfl, hst2, by simp; omega, by simp, Lib.hid ⟨hi8, ho8⟩⟩
                     case measure => (simp [intOf] <;> omega))
            · have hq1 := hq.out
              unfold wbB at hq1
              have hq2 : (97 ≤ (((s[k]'hlt).toNat : Int)) ∧ (((s[k]'hlt).toNat : Int)) ≤ 122) ∨ (48 ≤ (((s[k]'hlt).toNat : Int)) ∧ (((s[k]'hlt).toNat : Int)) ≤ 57) := by simp at hq1; omega
              clear hq1
              rcases hq2 with ⟨hq2, hq3⟩ | ⟨hq2, hq3⟩
              · have hsn := str_new wr (((s[k]'hlt).toNat : Int)) (by omega) (by omega) 5
                all_goals go_wp2
                all_goals first
                  | (go_roundw
                     case rel => exact ⟨k + 1, ao, co, out, wd ++ [bOf (((s[k]'hlt).toNat : Int))], by omega, by go_num, rfl, congrArg Value.string (app_bytes _ _), by rw [← hcm.out]; exact rowSt_word hst (by rw [hcm.out]; unfold wbB; simp; omega), by omega, by simp; omega, Lib.hid (hS.out.alloc _)⟩
                     case measure => (simp [intOf] <;> omega))
              · have hsn := str_new wr (((s[k]'hlt).toNat : Int)) (by omega) (by omega) 5
                all_goals go_wp2
                all_goals first
                  | (go_roundw
                     case rel => exact ⟨k + 1, ao, co, out, wd ++ [bOf (((s[k]'hlt).toNat : Int))], by omega, by go_num, rfl, congrArg Value.string (app_bytes _ _), by rw [← hcm.out]; exact rowSt_word hst (by rw [hcm.out]; unfold wbB; simp; omega), by omega, by simp; omega, Lib.hid (hS.out.alloc _)⟩
                     case measure => (simp [intOf] <;> omega))
      · obtain rfl : k = s.size := by omega
        have hc0 : Hid (chr s s.size = 0) := Lib.hid (by unfold chr; rw [if_neg (by omega)])
        have HQ : Hid (wbB (chr s s.size) = false) := Lib.hid (by rw [hc0.out]; decide)
        by_cases hw0 : wd.length = 0
        · have hwd : Hid (wd = []) := Lib.hid (List.eq_nil_of_length_eq_zero hw0)
          rw [decide_eq_true hw0] at hem
          have he2 := List.isEmpty_iff.1 hem
          clear hw0
          go_wp2
          all_goals first
            | (go_roundw
               case rel =>
                 obtain rfl := hwd.out
                 exact ⟨s.size + 1, ao, co, out, [], by omega, by go_num, rfl, rfl, rowSt_skip hst HQ.out, by omega, by simp, hS⟩
               case measure => (simp [intOf] <;> omega))
        · have hwd : wd ≠ [] := fun h => hw0 (by rw [h]; rfl)
          rw [decide_eq_false hw0] at hem
          have hst2 := rowSt_end hst HQ.out hwd
          clear hwd
          generalize (⟨wd.toArray⟩ : ByteArray) = t at *
          go_wp2_with (at_builtin; (refine wpList_app1F (α := ByteArray) rfl _ _ 23 rfl slS hin.out ao co _ hon.out _ _ t rfl rfl 1 rfl (by omega) ?_; intro a8 c8 w8 hi8 ho8 hg8 hf8))
          all_goals first
            | (go_roundw
               case rel => exact ⟨s.size + 1, a8, c8, out ++ [t], [], by omega, by go_num, by simp, rfl, hst2, by simp; omega, by simp, Lib.hid ⟨hi8, ho8⟩⟩
               case measure => (simp [intOf] <;> omega))
    · obtain rfl : k = s.size + 1 := by omega
      go_wp2
      go_ret
      have e : rowsF s = out := by rw [rowsF, hst.out]
      obtain ⟨φ', _, hi, hs', _⟩ := hS.out.own.release hS.out.inv
      rw [e]
      exact ⟨ao, co, φ', rfl, hi, hs'⟩
end Go.Proofs.Ytapkkplndhbapaa
