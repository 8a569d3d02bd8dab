/- Rotations: the walks of groups, isIn and Groups on both sides. Conditions: none beyond what the claim form gives. -/
import Derived.Test.YtafcecgcmaoakaaDoorW2
namespace Go.Proofs.YtafcecgcmaoakaaDoor
open Go.RowKit
set_option linter.unusedVariables false
theorem inW_b (x y z g wave : Int) : inW (x, y, z) g wave = ((!outB wave g (g + x - 1)) || (!outB wave (g + x + y) (g + x + y + z - 1))) := by
  simp only [inW, outB]
  rw [Bool.eq_iff_iff]
  simp
set_option maxHeartbeats 1000000 in
theorem isIn_any {x y z g wave : Int} (hr : RotOk (x, y, z)) (hg : 0 ≤ g ∧ g ≤ 1000) (hw : 0 ≤ wave ∧ wave ≤ 1000) {b : Bool} (hb : Hid (inW (x, y, z) g wave = b)) (w : World) :
    Calls Tryd.prog 38 #[.agg #[.int .i64 x, .int .i64 y, .int .i64 z], .int .i64 g, .int .i64 wave] w (fun e w' => e = .returned (.bool b) ∧ Below w.heap.size w w') := by
  obtain ⟨a1, a2, c1, c2, d1, d2⟩ := hr
  obtain ⟨g1, g2⟩ := hg
  obtain ⟨v1, v2⟩ := hw
  simp only at a1 a2 c1 c2 d1 d2
  obtain ⟨b1, h1⟩ : ∃ b, Hid ((!outB wave g (g + x - 1)) = b) := ⟨_, Lib.hid rfl⟩
  obtain ⟨b2, h2⟩ : ∃ b, Hid ((!outB wave (g + x + y) (g + x + y + z - 1)) = b) := ⟨_, Lib.hid rfl⟩
  have HF : Hid (b = (b1 || b2)) := Lib.hid (by rw [← hb.out, inW_b, h1.out, h2.out])
  have HB := Lib.hid ((Below.refl w.heap.size w).alloc (Nat.le_refl _) (.cells #[.int .i64 x, .int .i64 y, .int .i64 z] 41))
  clear hb
  go_enter Tryd.func38, Tryd.ntmps38
  cases b1
  · go_wp2_with (go_at_call 29; first | (with_reducible refine (sin_b h1.out _).mono ?_; rintro e w' ⟨rfl, rfl⟩) | (with_reducible refine (sin_b h2.out _).mono ?_; rintro e w' ⟨rfl, rfl⟩))
    go_ret
    exact ⟨ret_bool (by rw [HF.out]; rfl), HB.out⟩
  · go_wp2_with (go_at_call 29; first | (with_reducible refine (sin_b h1.out _).mono ?_; rintro e w' ⟨rfl, rfl⟩) | (with_reducible refine (sin_b h2.out _).mono ?_; rintro e w' ⟨rfl, rfl⟩))
    go_ret
    exact ⟨ret_bool (by rw [HF.out]; rfl), HB.out⟩
set_option maxHeartbeats 1000000 in
theorem Rgroups_any {x y z wave : Int} (hr : RotOk (x, y, z)) {W : Nat} (hW : (W : Int) = wave) (hw : wave ≤ 1000) {w : World} {φ : Phi} (hφ : Fz φ w) :
    Calls Tryd.prog 35 #[.agg #[.int .i64 x, .int .i64 y, .int .i64 z], .int .i64 wave] w (SlPost1 (grpK (x, y, z) wave W) φ w) := by
  obtain ⟨φ1, hle1, hi1, hb1⟩ := (Inv.start hφ).frz (.cells #[.int .i64 x, .int .i64 y, .int .i64 z] 41)
  have HB := Lib.hid hb1
  have hS0 : Hid (OwSt w φ1 3 none 0 ([] : List Int) (w.alloc (.cells #[.int .i64 x, .int .i64 y, .int .i64 z] 41))) := Lib.hid ⟨⟨hi1.bel, hi1.base, hi1.fz, φ1.le_refl, fun _ _ => rfl⟩, Own.nil _ _ _ _⟩
  have HI1 := Lib.hid hi1
  have HR := Lib.hid hr
  clear hi1 hb1 hφ hr
  go_enter Tryd.func35, Tryd.ntmps35
  go_wp2
  obtain ⟨bx, hbx⟩ : ∃ b, Hid (w.heap.size = b) := ⟨_, Lib.hid rfl⟩
  rw [hbx.out] at HB ⊢
  go_loopw [5, 6] (fun o v wr => ∃ (k : Nat) (ao : Option Addr) (co : Nat) (os : List Int), k ≤ W ∧ v = .int .i64 ((k : Int) + 1) ∧ o = .slice ao os.length co ∧ os.length ≤ 1000 ∧ Hid (grpK (x, y, z) wave k = os) ∧ Hid (OwSt w φ1 3 ao co os wr)) (fun _ v _ => W + 1 - (intOf v).toNat)
  case atStart => exact ⟨0, none, 0, [], Nat.zero_le _, rfl, rfl, by simp, Lib.hid rfl, hS0⟩
  case round =>
    clear hS0
    obtain ⟨k, ao, co, os, hk, rfl, rfl, hol, hos, hS⟩ := hrel
    have y0 : wr.cell? ⟨bx, 0, none⟩ = some (.int .i64 x) := box_cell HB.out φ1.le_refl hS.out.inv.fz 0
    have y1 : wr.cell? ⟨bx, 1, none⟩ = some (.int .i64 y) := box_cell HB.out φ1.le_refl hS.out.inv.fz 1
    have y2 : wr.cell? ⟨bx, 2, none⟩ = some (.int .i64 z) := box_cell HB.out φ1.le_refl hS.out.inv.fz 2
    by_cases hlt : k < W
    · have hle : (k : Int) + 1 ≤ wave := by omega
      obtain ⟨b, hb⟩ : ∃ b, Hid (inW (x, y, z) ((k : Int) + 1) wave = b) := ⟨_, Lib.hid rfl⟩
      have hgl := grpK_len (x, y, z) wave k
      rw [hos.out] at hgl
      cases b
      · have hnx : Hid (grpK (x, y, z) wave (k + 1) = os) := Lib.hid (by rw [grpK, hb.out, if_neg (by simp)]; exact hos.out)
        go_wp2_with (go_at_call 38; refine (isIn_any HR.out (by omega) (by omega) hb _).mono ?_; rintro e w' ⟨rfl, hbl⟩)
        go_roundw
        case rel => exact ⟨k + 1, ao, co, os, by omega, by go_num, rfl, by omega, hnx, Lib.hid (hS.out.callB (by assumption))⟩
        case measure => simp [intOf]; omega
      · have hnx : Hid (grpK (x, y, z) wave (k + 1) = os ++ [(k : Int) + 1]) := Lib.hid (by rw [grpK, hb.out, if_pos rfl, hos.out])
        go_wp2_with (first
          | (go_at_call 38; refine (isIn_any HR.out (by omega) (by omega) hb _).mono ?_; rintro e w' ⟨rfl, hbl⟩; have hS2 := Lib.hid (hS.out.callB hbl); have hin := Lib.hid hS2.out.inv; have hon := Lib.hid hS2.out.own)
          | (at_builtin; (refine wpList_app1F (α := Int) rfl _ _ 32 rfl slI hin.out ao co _ hon.out _ _ ((k : Int) + 1) rfl rfl 1 rfl (by omega) ?_; intro a8 c8 w8 hi8 ho8 hg8 hf8)))
        go_roundw
        case rel => exact ⟨k + 1, a8, c8, os ++ [(k : Int) + 1], by omega, by go_num, by simp, by simp; omega, hnx, Lib.hid ⟨hi8, ho8⟩⟩
        case measure => simp [intOf]; omega
    · obtain rfl : k = W := by omega
      have hnle : ¬ (k : Int) + 1 ≤ wave := by omega
      go_wp2
      go_ret
      obtain ⟨φ', _, hi, hs, _⟩ := hS.out.own.release hS.out.inv
      rw [hos.out]
      exact ⟨ao, co, φ', rfl, ⟨hi.bel, hi.base, hi.fz, hle1.trans hi.le, fun b hb => (hi.new b hb).trans (HI1.out.new b hb)⟩, hs⟩
set_option maxHeartbeats 1000000 in
theorem groups_any {x y z wave : Int} (hr : RotOk (x, y, z)) {W : Nat} (hW : (W : Int) = wave) (hw1 : 1 ≤ wave) (hw : wave ≤ 1000) {w : World} {φ : Phi} (hφ : Fz φ w) :
    Calls Tryd.prog 34 #[.agg #[.int .i64 x, .int .i64 y, .int .i64 z], .int .i64 wave] w (SlPost1 (grpK (x, y, z) wave W) φ w) := by
  obtain ⟨φ1, hle1, hi1, hb1⟩ := (Inv.start hφ).frz (.cells #[.int .i64 x, .int .i64 y, .int .i64 z] 41)
  have HB := Lib.hid hb1
  have hS0 : Hid (OwSt w φ1 3 none 0 ([] : List Int) (w.alloc (.cells #[.int .i64 x, .int .i64 y, .int .i64 z] 41))) := Lib.hid ⟨⟨hi1.bel, hi1.base, hi1.fz, φ1.le_refl, fun _ _ => rfl⟩, Own.nil _ _ _ _⟩
  have HI1 := Lib.hid hi1
  have HR := Lib.hid hr
  obtain ⟨a1, a2, c1, c2, d1, d2⟩ := hr
  simp only at a1 a2 c1 c2 d1 d2
  clear hi1 hb1 hφ
  obtain ⟨s, hs⟩ : ∃ s : Nat, max 1 (wave - x - y - z + 1) = (s : Int) + 1 := ⟨(max 1 (wave - x - y - z + 1) - 1).toNat, by omega⟩
  have hsW : s ≤ W := by omega
  have hg0 : Hid (grpK (x, y, z) wave s = []) := Lib.hid (grpK_none _ _ s (fun i h1 h2 => inW_low HR.out (by omega) (by show i < wave - x - y - z + 1; omega)))
  have hsl : wave - x - y - z + 1 ≤ (s : Int) + 1 := by omega
  have HS := Lib.hid hs
  clear hs
  go_enter Tryd.func34, Tryd.ntmps34
  go_wp2
  all_goals
    obtain ⟨bx, hbx⟩ : ∃ b, Hid (w.heap.size = b) := ⟨_, Lib.hid rfl⟩
    rw [hbx.out] at HB ⊢
    go_loopw [5, 6, 7] (fun o v ag wr => ∃ (k : Nat) (ao : Option Addr) (co : Nat) (os : List Int), s ≤ k ∧ k ≤ W ∧ v = .int .i64 ((k : Int) + 1) ∧ o = .slice ao os.length co ∧ os.length ≤ 1000 ∧ Hid (grpK (x, y, z) wave k = os) ∧ Hid (OwSt w φ1 3 ao co os wr)) (fun _ v _ _ => W + 1 - (intOf v).toNat)
    case atStart => exact ⟨s, none, 0, [], Nat.le_refl _, hsW, by congr 1; have := HS.out; omega, rfl, by simp, hg0, hS0⟩
    case round =>
      clear hS0
      obtain ⟨k, ao, co, os, hsk, hk, rfl, rfl, hol, hos, hS⟩ := hrel
      have y0 : wr.cell? ⟨bx, 0, none⟩ = some (.int .i64 x) := box_cell HB.out φ1.le_refl hS.out.inv.fz 0
      have y1 : wr.cell? ⟨bx, 1, none⟩ = some (.int .i64 y) := box_cell HB.out φ1.le_refl hS.out.inv.fz 1
      by_cases hlt : k < W
      · have hle : (k : Int) + 1 ≤ wave := by omega
        have hage : Hid (inW (x, y, z) ((k : Int) + 1) wave = (decide (wave - ((k : Int) + 1) < x) || decide (wave - ((k : Int) + 1) ≥ x + y))) := Lib.hid (inW_age HR.out hle (by show wave - x - y - z + 1 ≤ _; omega))
        have hgl := grpK_len (x, y, z) wave k
        rw [hos.out] at hgl
        have hin := Lib.hid hS.out.inv
        have hon := Lib.hid hS.out.own
        by_cases hin1 : wave - ((k : Int) + 1) < x ∨ wave - ((k : Int) + 1) ≥ x + y
        · have hnx : Hid (grpK (x, y, z) wave (k + 1) = os ++ [(k : Int) + 1]) := Lib.hid (by rw [grpK, hage.out, if_pos (by simpa using hin1), hos.out])
          by_cases hin2 : wave - ((k : Int) + 1) < x
          · go_wp2_with (at_builtin; (refine wpList_app1F (α := Int) rfl _ _ 32 rfl slI hin.out ao co _ hon.out _ _ ((k : Int) + 1) rfl rfl 1 rfl (by omega) ?_; intro a8 c8 w8 hi8 ho8 hg8 hf8))
            go_roundw
            case rel => exact ⟨k + 1, a8, c8, os ++ [(k : Int) + 1], by omega, by omega, by go_num, by simp, by simp; omega, hnx, Lib.hid ⟨hi8, ho8⟩⟩
            case measure => simp [intOf]; omega
          · have hin3 : wave - ((k : Int) + 1) ≥ x + y := by omega
            clear hin1
            go_wp2_with (at_builtin; (refine wpList_app1F (α := Int) rfl _ _ 32 rfl slI hin.out ao co _ hon.out _ _ ((k : Int) + 1) rfl rfl 1 rfl (by omega) ?_; intro a8 c8 w8 hi8 ho8 hg8 hf8))
            go_roundw
            case rel => exact ⟨k + 1, a8, c8, os ++ [(k : Int) + 1], by omega, by omega, by go_num, by simp, by simp; omega, hnx, Lib.hid ⟨hi8, ho8⟩⟩
            case measure => simp [intOf]; omega
        · have hnx : Hid (grpK (x, y, z) wave (k + 1) = os) := Lib.hid (by rw [grpK, hage.out, if_neg (by simpa using hin1), hos.out])
          have hin2 : ¬ wave - ((k : Int) + 1) < x := by omega
          have hin3 : ¬ wave - ((k : Int) + 1) ≥ x + y := by omega
          clear hin1
          go_wp2
          go_roundw
          case rel => exact ⟨k + 1, ao, co, os, by omega, by omega, by go_num, rfl, by omega, hnx, hS⟩
          case measure => simp [intOf]; omega
      · obtain rfl : k = W := by omega
        have hnle : ¬ (k : Int) + 1 ≤ wave := by omega
        go_wp2
        go_ret
        obtain ⟨φ', _, hi, hs, _⟩ := hS.out.own.release hS.out.inv
        rw [hos.out]
        exact ⟨ao, co, φ', rfl, ⟨hi.bel, hi.base, hi.fz, hle1.trans hi.le, fun b hb => (hi.new b hb).trans (HI1.out.new b hb)⟩, hs⟩
end Go.Proofs.YtafcecgcmaoakaaDoor
