/- The walk of the reference's CheckCalling. Conditions: none beyond what the claim form gives. -/
import Derived.Test.YtmgdeenjdoennaaC3
namespace Go.Proofs.Ytmgdeenjdoennaa
open Go.RowKit
set_option linter.unusedVariables false

set_option maxRecDepth 100000 in
set_option maxHeartbeats 1000000 in
theorem rchk_any (most gap : Int) (n1 n2 : Nat) (a1 a2 : Option Addr) (c1 c2 : Nat) (days : List Int) (wins : List (Int × Int)) (w : World) (φ : Phi) (hφ : Fz φ w) (s1 : SlV φ a1 c1 days) (s2 : SlV φ a2 c2 wins) (l1 : Hid (days.length = n1)) (l2 : Hid (wins.length = n2)) (hm : n1 ≤ 9223372036854775807) :
    Calls Try.prog 16 #[.agg #[.int .i64 most, .int .i64 gap, .slice a1 n1 c1, .slice a2 n2 c2]] w (IntB (chkF most gap days wins) w) := by
  have bel0 : ∀ o, Below w.heap.size w (w.alloc o) := fun o => (Below.refl _ _).alloc (Nat.le_refl _) o
  by_cases h1 : outB most 1 100 = true
  · have H1 := Lib.hid h1
    clear h1
    go_enter Try.func16, Try.ntmps16
    go_wp2_with fail
    refine (within_f _ _ _ _ H1.out).mono ?_
    rintro e w' ⟨rfl, rfl⟩
    go_wp2
    go_ret
    exact ⟨ret_int (chkF_1 (.inl H1.out)).symm, bel0 _⟩
  have H1 := Lib.hid (Bool.not_eq_true _ ▸ h1 : outB most 1 100 = false)
  clear h1
  by_cases h2 : outB gap 0 1000000 = true
  · have H2 := Lib.hid h2
    clear h2
    go_enter Try.func16, Try.ntmps16
    go_wp2_with fail
    refine (within_t _ _ _ _ H1.out).mono ?_
    rintro e w' ⟨rfl, rfl⟩
    go_wp2_with fail
    refine (within_f _ _ _ _ H2.out).mono ?_
    rintro e w' ⟨rfl, rfl⟩
    go_wp2
    go_ret
    exact ⟨ret_int (chkF_1 (.inr H2.out)).symm, bel0 _⟩
  have H2 := Lib.hid (Bool.not_eq_true _ ▸ h2 : outB gap 0 1000000 = false)
  clear h2
  have HN : Hid (¬ (outB most 1 100 = true ∨ outB gap 0 1000000 = true)) := Lib.hid (by rw [H1.out, H2.out]; simp)
  by_cases z1 : n1 = 0
  · have Z := Lib.hid z1
    have z1b : ((n1 : Int) == 0) = true := by simp [z1]
    clear z1
    go_enter Try.func16, Try.ntmps16
    go_wp2_with fail
    refine (within_t _ _ _ _ H1.out).mono ?_
    rintro e w' ⟨rfl, rfl⟩
    go_wp2_with fail
    refine (within_t _ _ _ _ H2.out).mono ?_
    rintro e w' ⟨rfl, rfl⟩
    go_wp2
    go_ret
    exact ⟨ret_int (chkF_9 l1 l2 HN (.inl Z.out)).symm, bel0 _⟩
  have z1b : ((n1 : Int) == 0) = false := by simp; omega
  by_cases z2 : n2 = 0
  · have Z := Lib.hid z2
    have z2b : ((n2 : Int) == 0) = true := by simp [z2]
    clear z2
    go_enter Try.func16, Try.ntmps16
    go_wp2_with fail
    refine (within_t _ _ _ _ H1.out).mono ?_
    rintro e w' ⟨rfl, rfl⟩
    go_wp2_with fail
    refine (within_t _ _ _ _ H2.out).mono ?_
    rintro e w' ⟨rfl, rfl⟩
    go_wp2
    go_ret
    exact ⟨ret_int (chkF_9 l1 l2 HN (.inr Z.out)).symm, bel0 _⟩
  have z2b : ((n2 : Int) == 0) = false := by simp; omega
  have hz : 0 < n1 ∧ 0 < n2 := by omega
  have z1 := Lib.hid z1
  have z2 := Lib.hid z2
  go_enter Try.func16, Try.ntmps16
  go_wp2_with fail
  refine (within_t _ _ _ _ H1.out).mono ?_
  rintro e w' ⟨rfl, rfl⟩
  go_wp2_with fail
  refine (within_t _ _ _ _ H2.out).mono ?_
  rintro e w' ⟨rfl, rfl⟩
  go_wp2
  clear z1b z2b
  go_loop [32] (fun i => ∃ k : Nat, k ≤ n1 ∧ i = .int .i64 k ∧ Hid (∀ i, i < k → dayBad days i = 0)) (fun i => n1 - (intOf i).toNat)
  case atStart => exact ⟨0, Nat.zero_le _, rfl, Lib.hid (fun i hi => by omega)⟩
  case round =>
    obtain ⟨k, hk, rfl, hok⟩ := hrel
    by_cases hlt : k < n1
    · obtain ⟨b, off, rfl, f⟩ := s1.intsD2 l1 hlt
      obtain ⟨hb, c1'⟩ := f k hlt w hφ
      have hp : 0 < k → w.cell? ⟨b, off + (k - 1), none⟩ = some (.int .i64 (days.getD (k - 1) 0)) := fun h => (f (k - 1) (by omega) w hφ).2
      have hbad : Hid (dayBad days k = _) := Lib.hid (dayBad.eq_1 days k)
      have HP := Lib.hid hp
      clear f hp
      generalize days.getD k 0 = d at *
      generalize days.getD (k - 1) 0 = p at *
      by_cases h1 : outB d 0 6 = true
      · have D1 := Lib.hid h1
        clear h1
        go_wp2_with fail
        refine (within_f _ _ _ _ D1.out).mono ?_
        rintro e w' ⟨rfl, rfl⟩
        go_wp2
        go_ret
        exact ⟨ret_int (chkF_day l1 l2 HN hz hlt hok (by rw [hbad.out, if_pos D1.out]) (by decide)).symm, bel0 _⟩
      have D1 := Lib.hid (Bool.not_eq_true _ ▸ h1 : outB d 0 6 = false)
      clear h1
      go_wp2_with fail
      refine (within_t _ _ _ _ D1.out).mono ?_
      rintro e w' ⟨rfl, rfl⟩
      by_cases h3 : 0 < k
      · have hpp := HP.out h3
        have h3i : (0 : Int) < k := by omega
        have hto : ((k : Int) - 1).toNat = k - 1 := by omega
        by_cases h4 : d ≤ p
        · go_wp2
          go_ret
          exact ⟨ret_int (chkF_day l1 l2 HN hz hlt hok (by rw [hbad.out, if_neg (by rw [D1.out]; simp), if_pos ⟨h3, h4⟩]) (by decide)).symm, bel0 _⟩
        · go_wp2
          go_round
          case rel => exact ⟨k + 1, by omega, by go_num, next_ok hok (by rw [hbad.out, if_neg (by rw [D1.out]; simp), if_neg (by omega)])⟩
          case measure => simp [intOf]; omega
      · go_wp2
        go_round
        case rel => exact ⟨k + 1, by omega, by go_num, next_ok hok (by rw [hbad.out, if_neg (by rw [D1.out]; simp), if_neg (by omega)])⟩
        case measure => simp [intOf]; omega
    · obtain rfl : k = n1 := by omega
      by_cases h8 : 8 < n2
      · go_wp2
        go_ret
        exact ⟨ret_int (chkF_2 l1 l2 HN hz hok h8).symm, bel0 _⟩
      go_wp2
      go_loopw [60] (fun i wr => ∃ j : Nat, j ≤ n2 ∧ i = .int .i64 j ∧ Hid (∀ i, i < j → winBad wins i = 0) ∧ Below (w.heap.size + 1) (w.alloc (.cells #[.int .i64 most, .int .i64 gap, .slice a1 k c1, .slice a2 n2 c2] 33)) wr) (fun i _ => n2 - (intOf i).toNat)
      case atStart => exact ⟨0, Nat.zero_le _, rfl, Lib.hid (fun i hi => by omega), Below.refl _ _⟩
      case round =>
        obtain ⟨j, hj, rfl, hok2, hbel⟩ := hrel
        have hbw : Below w.heap.size w wr := (bel0 _).trans (hbel.mono (by omega))
        have bx : wr.cell? ⟨w.heap.size, 3, none⟩ = some (.slice a2 n2 c2) := (hbel.cell (p := ⟨w.heap.size, 3, none⟩) (by simp)).trans (box_at 3)
        have hsz : w.heap.size < wr.heap.size := by have := hbel.size; simp at this; omega
        by_cases hjt : j < n2
        · obtain ⟨b, off, rfl, f⟩ := s2.pairsD l2 hjt
          have hf := hφ.below hbw
          obtain ⟨hb, q1, q2⟩ := f j hjt wr hf
          have hp : 0 < j → wr.cell? ⟨b, off + (j - 1) * 2 + 1, none⟩ = some (.int .i64 (wins.getD (j - 1) (0, 0)).2) := fun h => (f (j - 1) (by omega) wr hf).2.2
          have hbad : Hid (winBad wins j = _) := Lib.hid (winBad.eq_1 wins j)
          have HP := Lib.hid hp
          clear f hp
          generalize (wins.getD j (0, 0)).1 = x at *
          generalize (wins.getD j (0, 0)).2 = y at *
          generalize (wins.getD (j - 1) (0, 0)).2 = p at *
          have hb2 : ∀ o, Below w.heap.size w (wr.alloc o) := fun o => hbw.alloc hbw.size o
          have hb3 : ∀ o, Below (w.heap.size + 1) (w.alloc (.cells #[.int .i64 most, .int .i64 gap, .slice a1 k c1, .slice (some ⟨b, off, none⟩) n2 c2] 33)) (wr.alloc o) := fun o => hbel.alloc (by omega) o
          by_cases h1 : x < 0
          · go_wp2
            go_ret
            exact ⟨ret_int (chkF_win l1 l2 HN hz hok h8 hjt hok2 (by rw [hbad.out, if_pos (.inl h1)]) (by decide)).symm, hb2 _⟩
          by_cases h2 : y ≤ x
          · go_wp2
            go_ret
            exact ⟨ret_int (chkF_win l1 l2 HN hz hok h8 hjt hok2 (by rw [hbad.out, if_pos (.inr (.inl h2))]) (by decide)).symm, hb2 _⟩
          by_cases h3 : 1440 < y
          · go_wp2
            go_ret
            exact ⟨ret_int (chkF_win l1 l2 HN hz hok h8 hjt hok2 (by rw [hbad.out, if_pos (.inr (.inr h3))]) (by decide)).symm, hb2 _⟩
          by_cases h4 : 0 < j
          · have hpp := HP.out h4
            have h3i : (0 : Int) < j := by omega
            have hix : 0 ≤ (j : Int) - 1 := by omega
            have hix2 : (j : Int) - 1 < n2 := by omega
            by_cases h5 : x < p
            · have hw1 : IntKind.i64.wrap ((j : Int) - 1) = j - 1 := IntWalk.i64_in _ (by omega)
              have hto : ((j : Int) - 1).toNat = j - 1 := by omega
              go_wp2_with fail
              go_quiet (fail)
              clear hw1 hto
              go_wp2
              go_ret
              exact ⟨ret_int (chkF_win l1 l2 HN hz hok h8 hjt hok2 (by rw [hbad.out, if_neg (by omega), if_pos ⟨h4, h5⟩]) (by decide)).symm, bdrewN (hb2 _) _⟩
            · have hw1 : IntKind.i64.wrap ((j : Int) - 1) = j - 1 := IntWalk.i64_in _ (by omega)
              have hto : ((j : Int) - 1).toNat = j - 1 := by omega
              go_wp2_with fail
              go_quiet (fail)
              clear hw1 hto
              go_wp2
              go_roundw
              case rel => exact ⟨j + 1, by omega, by go_num, next_ok hok2 (by rw [hbad.out, if_neg (by omega), if_neg (by omega)]), bdrewN (hb3 _) _⟩
              case measure => simp [intOf]; omega
          · have h3i : decide ((0 : Int) < j) = false := decide_eq_false (by omega)
            go_wp2_with fail
            go_quiet (fail)
            go_wp2
            go_roundw
            case rel => exact ⟨j + 1, by omega, by go_num, next_ok hok2 (by rw [hbad.out, if_neg (by omega), if_neg (by omega)]), bdrewN (hb3 _) _⟩
            case measure => simp [intOf]; omega
        · obtain rfl : j = n2 := by omega
          go_wp2
          go_ret
          exact ⟨ret_int (chkF_ok l1 l2 HN hz hok h8 hok2).symm, hbw⟩
end Go.Proofs.Ytmgdeenjdoennaa
