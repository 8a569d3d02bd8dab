/- Walks of CheckCalling, on both sides. Conditions: none beyond what the claim form gives. -/
import Derived.Test.YtmgdeenjdoennaaC2
namespace Go.Proofs.Ytmgdeenjdoennaa
open Go.RowKit
set_option linter.unusedVariables false

def dayBad (days : List Int) (k : Nat) : Int :=
  if outB (days.getD k 0) 0 6 = true then 1 else if 0 < k ∧ days.getD k 0 ≤ days.getD (k - 1) 0 then 7 else 0
def winBad (wins : List (Int × Int)) (k : Nat) : Int :=
  if (wins.getD k (0, 0)).1 < 0 ∨ (wins.getD k (0, 0)).2 ≤ (wins.getD k (0, 0)).1 ∨ 1440 < (wins.getD k (0, 0)).2 then 1
  else if 0 < k ∧ (wins.getD k (0, 0)).1 < (wins.getD (k - 1) (0, 0)).2 then 7 else 0
def chkF (most gap : Int) (days : List Int) (wins : List (Int × Int)) : Int :=
  if outB most 1 100 = true ∨ outB gap 0 1000000 = true then 1
  else if days.length = 0 ∨ wins.length = 0 then 9
  else if scan (dayBad days) days.length ≠ 0 then scan (dayBad days) days.length
  else if 8 < wins.length then 2 else scan (winBad wins) wins.length
section
variable {most gap : Int} {days : List Int} {wins : List (Int × Int)} {n1 n2 : Nat} (h1 : Hid (days.length = n1)) (h2 : Hid (wins.length = n2))
theorem chkF_1 (h : outB most 1 100 = true ∨ outB gap 0 1000000 = true) : chkF most gap days wins = 1 := by rw [chkF, if_pos h]
include h1 h2
theorem chkF_9 (h : Hid (¬ (outB most 1 100 = true ∨ outB gap 0 1000000 = true))) (hz : n1 = 0 ∨ n2 = 0) : chkF most gap days wins = 9 := by
  rw [chkF, if_neg h.out, if_pos (by rw [h1.out, h2.out]; exact hz)]
theorem chkF_day (h : Hid (¬ (outB most 1 100 = true ∨ outB gap 0 1000000 = true))) (hz : 0 < n1 ∧ 0 < n2) {k : Nat} (hk : k < n1) (hok : Hid (∀ i, i < k → dayBad days i = 0)) {c : Int} (hc : dayBad days k = c) (h0 : c ≠ 0) : chkF most gap days wins = c := by
  have hs : scan (dayBad days) n1 = c := by rw [scan_stop hok.out hk (by rw [hc]; exact h0), hc]
  rw [chkF, if_neg h.out, if_neg (by rw [h1.out, h2.out]; omega), h1.out, hs, if_pos h0]
theorem chkF_2 (h : Hid (¬ (outB most 1 100 = true ∨ outB gap 0 1000000 = true))) (hz : 0 < n1 ∧ 0 < n2) (hok : Hid (∀ i, i < n1 → dayBad days i = 0)) (h8 : 8 < n2) : chkF most gap days wins = 2 := by
  rw [chkF, if_neg h.out, if_neg (by rw [h1.out, h2.out]; omega), h1.out, scan_zero _ _ hok.out, if_neg (by simp), if_pos (by rw [h2.out]; exact h8)]
theorem chkF_win (h : Hid (¬ (outB most 1 100 = true ∨ outB gap 0 1000000 = true))) (hz : 0 < n1 ∧ 0 < n2) (hok : Hid (∀ i, i < n1 → dayBad days i = 0)) (h8 : ¬ 8 < n2) {k : Nat} (hk : k < n2) (hok2 : Hid (∀ i, i < k → winBad wins i = 0)) {c : Int} (hc : winBad wins k = c) (h0 : c ≠ 0) : chkF most gap days wins = c := by
  rw [chkF, if_neg h.out, if_neg (by rw [h1.out, h2.out]; omega), h1.out, scan_zero _ _ hok.out, if_neg (by simp), if_neg (by rw [h2.out]; exact h8), h2.out, scan_stop hok2.out hk (by rw [hc]; exact h0), hc]
theorem chkF_ok (h : Hid (¬ (outB most 1 100 = true ∨ outB gap 0 1000000 = true))) (hz : 0 < n1 ∧ 0 < n2) (hok : Hid (∀ i, i < n1 → dayBad days i = 0)) (h8 : ¬ 8 < n2) (hok2 : Hid (∀ i, i < n2 → winBad wins i = 0)) : chkF most gap days wins = 0 := by
  rw [chkF, if_neg h.out, if_neg (by rw [h1.out, h2.out]; omega), h1.out, scan_zero _ _ hok.out, if_neg (by simp), if_neg (by rw [h2.out]; exact h8), h2.out, scan_zero _ _ hok2.out]
end
theorem next_ok {f : Nat → Int} {k : Nat} (h : Hid (∀ i, i < k → f i = 0)) (hk : f k = 0) : Hid (∀ i, i < k + 1 → f i = 0) := by
  refine Lib.hid fun i hi => ?_
  by_cases e : i = k
  · subst e; exact hk
  · exact h.out i (by omega)
theorem box_at {w : World} {cs : Array Value} {T : TypeId} (i : Nat) : (w.alloc (.cells cs T)).cell? ⟨w.heap.size, i, none⟩ = cs[i]? := by
  rw [World.cell?_alloc_at _ _ _ _ rfl]

set_option maxRecDepth 100000 in
set_option maxHeartbeats 1000000 in
theorem chk_any (most gap : Int) (n1 n2 : Nat) (a1 a2 : Option Addr) (c1 c2 : Nat) (days : List Int) (wins : List (Int × Int)) (w : World) (φ : Phi) (hφ : Fz φ w) (s1 : SlV φ a1 c1 days) (s2 : SlV φ a2 c2 wins) (l1 : Hid (days.length = n1)) (l2 : Hid (wins.length = n2)) (hm : n1 ≤ 9223372036854775807) :
    Calls Try.prog 15 #[.agg #[.int .i64 most, .int .i64 gap, .slice a1 n1 c1, .slice a2 n2 c2]] w (IntB (chkF most gap days wins) w) := by
  have bel0 : ∀ o, Below w.heap.size w (w.alloc o) := fun o => (Below.refl _ _).alloc (Nat.le_refl _) o
  by_cases h1 : outB most 1 100 = true
  · have H1 := Lib.hid h1
    clear h1
    go_enter Try.func15, Try.ntmps15
    go_wp2_with fail
    refine (outside_t _ _ _ _ H1.out).mono ?_
    rintro e w' ⟨rfl, rfl⟩
    go_wp2
    go_ret
    exact ⟨ret_int (chkF_1 (.inl H1.out)).symm, bel0 _⟩
  have H1 := Lib.hid (Bool.not_eq_true _ ▸ h1 : outB most 1 100 = false)
  clear h1
  by_cases h2 : outB gap 0 1000000 = true
  · have H2 := Lib.hid h2
    clear h2
    go_enter Try.func15, Try.ntmps15
    go_wp2_with fail
    refine (outside_f _ _ _ _ H1.out).mono ?_
    rintro e w' ⟨rfl, rfl⟩
    go_wp2_with fail
    refine (outside_t _ _ _ _ H2.out).mono ?_
    rintro e w' ⟨rfl, rfl⟩
    go_wp2
    go_ret
    exact ⟨ret_int (chkF_1 (.inr H2.out)).symm, bel0 _⟩
  have H2 := Lib.hid (Bool.not_eq_true _ ▸ h2 : outB gap 0 1000000 = false)
  clear h2
  have HN : Hid (¬ (outB most 1 100 = true ∨ outB gap 0 1000000 = true)) := Lib.hid (by rw [H1.out, H2.out]; simp)
  by_cases z1 : n1 = 0
  · have Z := Lib.hid z1
    have z1b : ((n1 : Int) == 0) = true := by simp [z1]
    clear z1
    go_enter Try.func15, Try.ntmps15
    go_wp2_with fail
    refine (outside_f _ _ _ _ H1.out).mono ?_
    rintro e w' ⟨rfl, rfl⟩
    go_wp2_with fail
    refine (outside_f _ _ _ _ H2.out).mono ?_
    rintro e w' ⟨rfl, rfl⟩
    go_wp2
    go_ret
    exact ⟨ret_int (chkF_9 l1 l2 HN (.inl Z.out)).symm, bel0 _⟩
  have z1b : ((n1 : Int) == 0) = false := by simp; omega
  by_cases z2 : n2 = 0
  · have Z := Lib.hid z2
    have z2b : ((n2 : Int) == 0) = true := by simp [z2]
    clear z2
    go_enter Try.func15, Try.ntmps15
    go_wp2_with fail
    refine (outside_f _ _ _ _ H1.out).mono ?_
    rintro e w' ⟨rfl, rfl⟩
    go_wp2_with fail
    refine (outside_f _ _ _ _ H2.out).mono ?_
    rintro e w' ⟨rfl, rfl⟩
    go_wp2
    go_ret
    exact ⟨ret_int (chkF_9 l1 l2 HN (.inr Z.out)).symm, bel0 _⟩
  have z2b : ((n2 : Int) == 0) = false := by simp; omega
  have hz : 0 < n1 ∧ 0 < n2 := by omega
  have z1 := Lib.hid z1
  have z2 := Lib.hid z2
  go_enter Try.func15, Try.ntmps15
  go_wp2_with fail
  refine (outside_f _ _ _ _ H1.out).mono ?_
  rintro e w' ⟨rfl, rfl⟩
  go_wp2_with fail
  refine (outside_f _ _ _ _ H2.out).mono ?_
  rintro e w' ⟨rfl, rfl⟩
  go_wp2
  clear z1b z2b
  go_loop [28] (fun i => ∃ k : Nat, k ≤ n1 ∧ i = .int .i64 k ∧ Hid (∀ i, i < k → dayBad days i = 0)) (fun i => n1 - (intOf i).toNat)
  case atStart => exact ⟨0, Nat.zero_le _, rfl, Lib.hid (fun i hi => by omega)⟩
  case round =>
    obtain ⟨k, hk, rfl, hok⟩ := hrel
    by_cases hlt : k < n1
    · obtain ⟨b, off, rfl, f⟩ := s1.intsD2 l1 hlt
      obtain ⟨hb, c1'⟩ := f k hlt w hφ
      have hp : 0 < k → w.cell? ⟨b, off + (k - 1), none⟩ = some (.int .i64 (days.getD (k - 1) 0)) := fun h => (f (k - 1) (by omega) w hφ).2
      have hbad : Hid (dayBad days k = _) := Lib.hid (dayBad.eq_1 days k)
      have HP := Lib.hid hp
      clear f hp
      generalize days.getD k 0 = d at *
      generalize days.getD (k - 1) 0 = p at *
      by_cases h1 : outB d 0 6 = true
      · have D1 := Lib.hid h1
        clear h1
        go_wp2_with fail
        refine (outside_t _ _ _ _ D1.out).mono ?_
        rintro e w' ⟨rfl, rfl⟩
        go_wp2
        go_ret
        exact ⟨ret_int (chkF_day l1 l2 HN hz hlt hok (by rw [hbad.out, if_pos D1.out]) (by decide)).symm, bel0 _⟩
      have D1 := Lib.hid (Bool.not_eq_true _ ▸ h1 : outB d 0 6 = false)
      clear h1
      go_wp2_with fail
      refine (outside_f _ _ _ _ D1.out).mono ?_
      rintro e w' ⟨rfl, rfl⟩
      by_cases h3 : 0 < k
      · have hpp := HP.out h3
        have h3i : (0 : Int) < k := by omega
        have hto : ((k : Int) - 1).toNat = k - 1 := by omega
        by_cases h4 : d ≤ p
        · go_wp2
          go_ret
          exact ⟨ret_int (chkF_day l1 l2 HN hz hlt hok (by rw [hbad.out, if_neg (by rw [D1.out]; simp), if_pos ⟨h3, h4⟩]) (by decide)).symm, bel0 _⟩
        · go_wp2
          go_round
          case rel => exact ⟨k + 1, by omega, by go_num, next_ok hok (by rw [hbad.out, if_neg (by rw [D1.out]; simp), if_neg (by omega)])⟩
          case measure => simp [intOf]; omega
      · go_wp2
        go_round
        case rel => exact ⟨k + 1, by omega, by go_num, next_ok hok (by rw [hbad.out, if_neg (by rw [D1.out]; simp), if_neg (by omega)])⟩
        case measure => simp [intOf]; omega
    · obtain rfl : k = n1 := by omega
      by_cases h8 : 8 < n2
      · go_wp2
        go_ret
        exact ⟨ret_int (chkF_2 l1 l2 HN hz hok h8).symm, bel0 _⟩
      go_wp2
      go_loopw [55] (fun i wr => ∃ j : Nat, j ≤ n2 ∧ i = .int .i64 j ∧ Hid (∀ i, i < j → winBad wins i = 0) ∧ Below (w.heap.size + 1) (w.alloc (.cells #[.int .i64 most, .int .i64 gap, .slice a1 k c1, .slice a2 n2 c2] 33)) wr) (fun i _ => n2 - (intOf i).toNat)
      case atStart => exact ⟨0, Nat.zero_le _, rfl, Lib.hid (fun i hi => by omega), Below.refl _ _⟩
      case round =>
        obtain ⟨j, hj, rfl, hok2, hbel⟩ := hrel
        have hbw : Below w.heap.size w wr := (bel0 _).trans (hbel.mono (by omega))
        have bx : wr.cell? ⟨w.heap.size, 3, none⟩ = some (.slice a2 n2 c2) := (hbel.cell (p := ⟨w.heap.size, 3, none⟩) (by simp)).trans (box_at 3)
        have hsz : w.heap.size < wr.heap.size := by have := hbel.size; simp at this; omega
        by_cases hjt : j < n2
        · obtain ⟨b, off, rfl, f⟩ := s2.pairsD l2 hjt
          have hf := hφ.below hbw
          obtain ⟨hb, q1, q2⟩ := f j hjt wr hf
          have hp : 0 < j → wr.cell? ⟨b, off + (j - 1) * 2 + 1, none⟩ = some (.int .i64 (wins.getD (j - 1) (0, 0)).2) := fun h => (f (j - 1) (by omega) wr hf).2.2
          have hbad : Hid (winBad wins j = _) := Lib.hid (winBad.eq_1 wins j)
          have HP := Lib.hid hp
          clear f hp
          generalize (wins.getD j (0, 0)).1 = x at *
          generalize (wins.getD j (0, 0)).2 = y at *
          generalize (wins.getD (j - 1) (0, 0)).2 = p at *
          have hb2 : ∀ o, Below w.heap.size w (wr.alloc o) := fun o => hbw.alloc hbw.size o
          have hb3 : ∀ o, Below (w.heap.size + 1) (w.alloc (.cells #[.int .i64 most, .int .i64 gap, .slice a1 k c1, .slice (some ⟨b, off, none⟩) n2 c2] 33)) (wr.alloc o) := fun o => hbel.alloc (by omega) o
          by_cases h1 : x < 0
          · go_wp2
            go_ret
            exact ⟨ret_int (chkF_win l1 l2 HN hz hok h8 hjt hok2 (by rw [hbad.out, if_pos (.inl h1)]) (by decide)).symm, hb2 _⟩
          by_cases h2 : y ≤ x
          · go_wp2
            go_ret
            exact ⟨ret_int (chkF_win l1 l2 HN hz hok h8 hjt hok2 (by rw [hbad.out, if_pos (.inr (.inl h2))]) (by decide)).symm, hb2 _⟩
          by_cases h3 : 1440 < y
          · go_wp2
            go_ret
            exact ⟨ret_int (chkF_win l1 l2 HN hz hok h8 hjt hok2 (by rw [hbad.out, if_pos (.inr (.inr h3))]) (by decide)).symm, hb2 _⟩
          by_cases h4 : 0 < j
          · have hpp := HP.out h4
            have h3i : (0 : Int) < j := by omega
            have hix : 0 ≤ (j : Int) - 1 := by omega
            have hix2 : (j : Int) - 1 < n2 := by omega
            by_cases h5 : x < p
            · have hw1 : IntKind.i64.wrap ((j : Int) - 1) = j - 1 := IntWalk.i64_in _ (by omega)
              have hto : ((j : Int) - 1).toNat = j - 1 := by omega
              go_wp2_with fail
              go_quiet (fail)
              clear hw1 hto
              go_wp2
              go_ret
              exact ⟨ret_int (chkF_win l1 l2 HN hz hok h8 hjt hok2 (by rw [hbad.out, if_neg (by omega), if_pos ⟨h4, h5⟩]) (by decide)).symm, bdrewN (hb2 _) _⟩
            · have hw1 : IntKind.i64.wrap ((j : Int) - 1) = j - 1 := IntWalk.i64_in _ (by omega)
              have hto : ((j : Int) - 1).toNat = j - 1 := by omega
              go_wp2_with fail
              go_quiet (fail)
              clear hw1 hto
              go_wp2
              go_roundw
              case rel => exact ⟨j + 1, by omega, by go_num, next_ok hok2 (by rw [hbad.out, if_neg (by omega), if_neg (by omega)]), bdrewN (hb3 _) _⟩
              case measure => simp [intOf]; omega
          · have h3i : decide ((0 : Int) < j) = false := decide_eq_false (by omega)
            go_wp2_with fail
            go_quiet (fail)
            go_wp2
            go_roundw
            case rel => exact ⟨j + 1, by omega, by go_num, next_ok hok2 (by rw [hbad.out, if_neg (by omega), if_neg (by omega)]), bdrewN (hb3 _) _⟩
            case measure => simp [intOf]; omega
        · obtain rfl : j = n2 := by omega
          go_wp2
          go_ret
          exact ⟨ret_int (chkF_ok l1 l2 HN hz hok h8 hok2).symm, hbw⟩
end Go.Proofs.Ytmgdeenjdoennaa
