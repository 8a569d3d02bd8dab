/- Walks of the reference's attempts and of outcomes. Conditions: none beyond what the claim form gives. -/
import Derived.Test.YtmgdeenjdoennaaC1
namespace Go.Proofs.Ytmgdeenjdoennaa
open Go.RowKit
set_option linter.unusedVariables false
set_option maxHeartbeats 400000 in
theorem rattFault_any (n : Nat) (a : Option Addr) (cap : Nat) (l : List (Int × Int)) (w : World) (φ : Phi) (hφ : Fz φ w) (s : SlV φ a cap l) (hn : Hid (l.length = n)) :
    Calls Try.prog 26 #[.slice a n cap] w (IntB (attF l) w) := by
  by_cases hl : 100 < n
  · go_enter Try.func26, Try.ntmps26
    go_wp2
    go_ret
    exact ⟨ret_int (by rw [attF, hn.out, if_pos hl]), Below.refl _ _⟩
  · go_enter Try.func26, Try.ntmps26
    go_wp2
    go_loopw [10] (fun i wr => ∃ k : Nat, k ≤ n ∧ i = .int .i64 k ∧ Hid (∀ i, i < k → attBad l i = 0) ∧ Below w.heap.size w wr) (fun i _ => n - (intOf i).toNat)
    case atStart => exact ⟨0, Nat.zero_le _, rfl, Lib.hid (fun i hi => by omega), Below.refl _ _⟩
    case round =>
      obtain ⟨k, hk, rfl, hok, hbel⟩ := hrel
      by_cases hlt : k < n
      · obtain ⟨b, off, rfl, f⟩ := s.pairsD hn hlt
        have hf := hφ.below hbel
        obtain ⟨hb, c1, c2⟩ := f k hlt wr hf
        have hp : 0 < k → wr.cell? ⟨b, off + (k - 1) * 2, none⟩ = some (.int .i64 (l.getD (k - 1) (0, 0)).1) := fun h => (f (k - 1) (by omega) wr hf).2.1
        have hbad : Hid (attBad l k = _) := Lib.hid (attBad.eq_1 l k)
        have HP := Lib.hid hp
        clear f hp
        generalize (l.getD k (0, 0)).1 = m at *
        generalize (l.getD k (0, 0)).2 = o at *
        generalize (l.getD (k - 1) (0, 0)).1 = p at *
        have hbel2 : ∀ o, Below w.heap.size w (wr.alloc o) := fun o => hbel.alloc hbel.size o
        by_cases h1 : outB m 0 1099511627776 = true
        · have H1 := Lib.hid h1
          clear h1
          go_wp2_with (go_at_call 28; refine (within_f _ _ _ _ H1.out).mono ?_; rintro e w' ⟨rfl, rfl⟩)
          go_ret
          exact ⟨ret_int (attF_at hn (by omega) hlt hok (by rw [hbad.out, if_pos H1.out]) (by decide)).symm, hbel2 _⟩
        have H1 := Lib.hid (Bool.not_eq_true _ ▸ h1 : outB m 0 1099511627776 = false)
        clear h1
        by_cases h2 : outB o 1 7 = true
        · have H2 := Lib.hid h2
          clear h2
          go_wp2_with fail
          refine (within_t _ _ _ _ H1.out).mono ?_
          rintro e w' ⟨rfl, rfl⟩
          go_wp2_with fail
          refine (within_f _ _ _ _ H2.out).mono ?_
          rintro e w' ⟨rfl, rfl⟩
          go_wp2
          go_ret
          exact ⟨ret_int (attF_at hn (by omega) hlt hok (by rw [hbad.out, if_neg (by rw [H1.out]; simp), if_pos H2.out]) (by decide)).symm, hbel2 _⟩
        have H2 := Lib.hid (Bool.not_eq_true _ ▸ h2 : outB o 1 7 = false)
        clear h2
        go_wp2_with fail
        refine (within_t _ _ _ _ H1.out).mono ?_
        rintro e w' ⟨rfl, rfl⟩
        go_wp2_with fail
        refine (within_t _ _ _ _ H2.out).mono ?_
        rintro e w' ⟨rfl, rfl⟩
        by_cases h3 : 0 < k
        · have hpp := HP.out h3
          have h3i : (0 : Int) < k := by omega
          have hix : 0 ≤ (k : Int) - 1 := by omega
          have hix2 : (k : Int) - 1 < n := by omega
          have hw1 : IntKind.i64.wrap ((k : Int) - 1) = k - 1 := IntWalk.i64_in _ (by omega)
          have hto : ((k : Int) - 1).toNat = k - 1 := by omega
          by_cases h4 : m < p
          · go_wp2_with fail
            go_quiet (fail)
            go_wp2
            go_ret
            exact ⟨ret_int (attF_at hn (by omega) hlt hok (by rw [hbad.out, if_neg (by rw [H1.out]; simp), if_neg (by rw [H2.out]; simp), if_pos ⟨h3, h4⟩]) (by decide)).symm, bdrewN (hbel2 _) _⟩
          · go_wp2_with fail
            go_quiet (fail)
            clear hw1 hto
            go_wp2
            go_roundw
            case rel => exact ⟨k + 1, by omega, by go_num, attBad_next hok (by rw [hbad.out, if_neg (by rw [H1.out]; simp), if_neg (by rw [H2.out]; simp), if_neg (by omega)]), bdrewN (hbel2 _) _⟩
            case measure => simp [intOf]; omega
        · have h3i : decide ((0 : Int) < k) = false := decide_eq_false (by omega)
          go_wp2_with fail
          go_quiet (fail)
          go_wp2
          go_roundw
          case rel => exact ⟨k + 1, by omega, by go_num, attBad_next hok (by rw [hbad.out, if_neg (by rw [H1.out]; simp), if_neg (by rw [H2.out]; simp), if_neg (by omega)]), bdrewN (hbel2 _) _⟩
          case measure => simp [intOf]; omega
      · obtain rfl : k = n := by omega
        go_wp2
        go_ret
        exact ⟨ret_int (attF_ok hn (by omega) hok).symm, hbel⟩

def outTo (l : List (Int × Int)) : Nat → Int
  | 0 => 7
  | k + 1 => min (outTo l k) (l.getD k (0, 0)).2

theorem outcome_any (n : Nat) (a : Option Addr) (cap : Nat) (l : List (Int × Int)) (w : World) (φ : Phi) (hφ : Fz φ w) (s : SlV φ a cap l) (hn : Hid (l.length = n)) (hl : n ≤ 100) :
    Calls Try.prog 25 #[.slice a n cap] w (IntB (outTo l n) w) := by
  go_enter Try.func25, Try.ntmps25
  go_wp2
  go_loopw [3, 8] (fun o i wr => ∃ k : Nat, k ≤ n ∧ i = .int .i64 k ∧ o = .int .i64 (outTo l k) ∧ Below w.heap.size w wr) (fun _ i _ => n - (intOf i).toNat)
  case atStart => exact ⟨0, Nat.zero_le _, rfl, rfl, Below.refl _ _⟩
  case round =>
    obtain ⟨k, hk, rfl, rfl, hbel⟩ := hrel
    by_cases hlt : k < n
    · obtain ⟨b, off, rfl, f⟩ := s.pairsD hn hlt
      obtain ⟨hb, c1, c2⟩ := f k hlt wr (hφ.below hbel)
      have hst : Hid (outTo l (k + 1) = _) := Lib.hid (outTo.eq_2 l k)
      have hbel2 : ∀ o, Below w.heap.size w (wr.alloc o) := fun o => hbel.alloc hbel.size o
      clear f
      generalize (l.getD k (0, 0)).2 = o at *
      generalize outTo l k = q at *
      by_cases hq : q ≤ o
      · go_wp2
        go_roundw
        case rel => exact ⟨k + 1, by omega, by go_num, by rw [hst.out, Int.min_eq_left hq], hbel2 _⟩
        case measure => simp [intOf]; omega
      · go_wp2
        go_roundw
        case rel => exact ⟨k + 1, by omega, by go_num, by rw [hst.out, Int.min_eq_right (by omega), if_pos (by omega)], hbel2 _⟩
        case measure => simp [intOf]; omega
    · obtain rfl : k = n := by omega
      go_wp2
      go_ret
      exact ⟨rfl, hbel⟩

theorem routcome_any (n : Nat) (a : Option Addr) (cap : Nat) (l : List (Int × Int)) (w : World) (φ : Phi) (hφ : Fz φ w) (s : SlV φ a cap l) (hn : Hid (l.length = n)) (hl : n ≤ 100) :
    Calls Try.prog 27 #[.slice a n cap] w (IntB (outTo l n) w) := by
  go_enter Try.func27, Try.ntmps27
  go_wp2
  go_loopw [3, 8] (fun o i wr => ∃ k : Nat, k ≤ n ∧ i = .int .i64 k ∧ o = .int .i64 (outTo l k) ∧ Below w.heap.size w wr) (fun _ i _ => n - (intOf i).toNat)
  case atStart => exact ⟨0, Nat.zero_le _, rfl, rfl, Below.refl _ _⟩
  case round =>
    obtain ⟨k, hk, rfl, rfl, hbel⟩ := hrel
    by_cases hlt : k < n
    · obtain ⟨b, off, rfl, f⟩ := s.pairsD hn hlt
      obtain ⟨hb, c1, c2⟩ := f k hlt wr (hφ.below hbel)
      have hst : Hid (outTo l (k + 1) = _) := Lib.hid (outTo.eq_2 l k)
      have hbel2 : ∀ o, Below w.heap.size w (wr.alloc o) := fun o => hbel.alloc hbel.size o
      clear f
      generalize (l.getD k (0, 0)).2 = o at *
      generalize outTo l k = q at *
      by_cases hq : q ≤ o
      · go_wp2
        go_roundw
        case rel => exact ⟨k + 1, by omega, by go_num, by rw [hst.out, Int.min_eq_left hq], hbel2 _⟩
        case measure => simp [intOf]; omega
      · go_wp2
        go_roundw
        case rel => exact ⟨k + 1, by omega, by go_num, by rw [hst.out, Int.min_eq_right (by omega), if_pos (by omega)], hbel2 _⟩
        case measure => simp [intOf]; omega
    · obtain rfl : k = n := by omega
      go_wp2
      go_ret
      exact ⟨rfl, hbel⟩

/-- What Outcome answers. -/
def OutF (l : List (Int × Int)) : Int × Int := if attF l ≠ 0 then (0, attF l) else (outTo l l.length, 0)
def IntFB (r : Int × Int) (w : World) (e : Ending) (w' : World) : Prop := e = .returned (.tuple #[.int .i64 r.1, .int .i64 r.2]) ∧ Below w.heap.size w w'
theorem attF_len {l : List (Int × Int)} {n : Nat} (hn : Hid (l.length = n)) (h : attF l = 0) : n ≤ 100 := by
  unfold attF at h
  rw [hn.out] at h
  split at h
  · cases h
  · omega

theorem Outcome_any (n : Nat) (a : Option Addr) (cap : Nat) (l : List (Int × Int)) (w : World) (φ : Phi) (hφ : Fz φ w) (s : SlV φ a cap l) (hn : Hid (l.length = n)) :
    Calls Try.prog 13 #[.slice a n cap] w (IntFB (OutF l) w) := by
  by_cases h : attF l = 0
  · have H := Lib.hid h
    have hl := attF_len hn h
    clear h
    go_enter Try.func13, Try.ntmps13
    go_wp2_with fail
    refine (attFault_any n a cap l w φ hφ s hn).mono ?_
    rintro e w1 ⟨rfl, hb1⟩
    rw [H.out]
    go_wp2_with fail
    refine (outcome_any n a cap l w1 φ (hφ.below hb1) s hn hl).mono ?_
    rintro e w2 ⟨rfl, hb2⟩
    go_wp2
    go_ret2
    refine ⟨?_, hb1.trans (hb2.mono hb1.size)⟩
    rw [OutF, if_neg (by rw [H.out]; simp), hn.out]; rfl
  · have hne : (attF l != 0) = true := by simp [h]
    have H := Lib.hid h
    clear h
    go_enter Try.func13, Try.ntmps13
    go_wp2_with fail
    refine (attFault_any n a cap l w φ hφ s hn).mono ?_
    rintro e w1 ⟨rfl, hb1⟩
    go_wp2
    go_ret2
    refine ⟨?_, hb1⟩
    rw [OutF, if_pos H.out]; rfl

theorem ROutcome_any (n : Nat) (a : Option Addr) (cap : Nat) (l : List (Int × Int)) (w : World) (φ : Phi) (hφ : Fz φ w) (s : SlV φ a cap l) (hn : Hid (l.length = n)) :
    Calls Try.prog 14 #[.slice a n cap] w (IntFB (OutF l) w) := by
  by_cases h : attF l = 0
  · have H := Lib.hid h
    have hl := attF_len hn h
    clear h
    go_enter Try.func14, Try.ntmps14
    go_wp2_with fail
    refine (rattFault_any n a cap l w φ hφ s hn).mono ?_
    rintro e w1 ⟨rfl, hb1⟩
    rw [H.out]
    go_wp2_with fail
    refine (routcome_any n a cap l w1 φ (hφ.below hb1) s hn hl).mono ?_
    rintro e w2 ⟨rfl, hb2⟩
    go_wp2
    go_ret2
    refine ⟨?_, hb1.trans (hb2.mono hb1.size)⟩
    rw [OutF, if_neg (by rw [H.out]; simp), hn.out]; rfl
  · have hne : (attF l != 0) = true := by simp [h]
    have H := Lib.hid h
    clear h
    go_enter Try.func14, Try.ntmps14
    go_wp2_with fail
    refine (rattFault_any n a cap l w φ hφ s hn).mono ?_
    rintro e w1 ⟨rfl, hb1⟩
    go_wp2
    go_ret2
    refine ⟨?_, hb1⟩
    rw [OutF, if_pos H.out]; rfl
end Go.Proofs.Ytmgdeenjdoennaa
