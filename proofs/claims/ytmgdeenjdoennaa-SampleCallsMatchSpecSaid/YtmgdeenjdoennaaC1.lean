/- Walks of the attempts of a case, on both sides. Conditions: none beyond what the claim form gives. -/
import Derived.Test.YtmgdeenjdoennaaT
import Derived.WalkSpells
namespace Go.Proofs.Ytmgdeenjdoennaa
open Go.RowKit
set_option linter.unusedVariables false

/-- The first that is not 0. -/
def scan (f : Nat → Int) : Nat → Int
  | 0 => 0
  | n + 1 => if scan f n ≠ 0 then scan f n else f n
theorem scan_zero (f : Nat → Int) : ∀ n, (∀ i, i < n → f i = 0) → scan f n = 0
  | 0, _ => rfl
  | n + 1, h => by rw [scan, scan_zero f n (fun i hi => h i (by omega)), if_neg (by simp)]; exact h n (by omega)
theorem scan_stop {f : Nat → Int} {n k : Nat} (h : ∀ i, i < k → f i = 0) (hk : k < n) (hf : f k ≠ 0) : scan f n = f k := by
  have : ∀ d, scan f (k + 1 + d) = f k := by
    intro d
    induction d with
    | zero => rw [Nat.add_zero, scan, scan_zero f k h, if_neg (by simp)]
    | succ d ih => rw [← Nat.add_assoc, scan, ih, if_pos hf]
  have e : n = k + 1 + (n - (k + 1)) := by omega
  rw [e]; exact this _

theorem getD_elem0 (l : List Int) (k : Nat) (h : k < l.length) : l.getD k 0 = l[k] := by
  rw [List.getD_eq_getElem?_getD, List.getElem?_eq_getElem h]; rfl
theorem SlV.intsD2 {φ : Phi} {a : Option Addr} {cap : Nat} {xs : List Int} (h : SlV φ a cap xs) {k n : Nat} (hn : Hid (xs.length = n)) (hk : k < n) :
    ∃ b off, a = some ⟨b, off, none⟩ ∧ ∀ k, k < n → ∀ w, Fz φ w → b < w.heap.size ∧ w.cell? ⟨b, off + k, none⟩ = some (.int .i64 (xs.getD k 0)) := by
  obtain ⟨b, off, ha, hc⟩ := h.at_ (by intro e; subst e; have := hn.out; simp at this; omega)
  refine ⟨b, off, ha, fun k hk w hw => ?_⟩
  obtain ⟨cs, hr, hj⟩ := hc k (by rw [hn.out]; exact hk)
  have hcs' : cs = [.int .i64 (xs[k]'(by rw [hn.out]; exact hk))] := hr
  subst hcs'
  have := hj 0 (by simp)
  simp [Rep.size] at this
  refine ⟨hw.lt this, ?_⟩
  rw [hw.cell this, List.getD_eq_getElem?_getD, List.getElem?_eq_getElem (by rw [hn.out]; exact hk)]; rfl
theorem SlV.pairsD {φ : Phi} {a : Option Addr} {cap : Nat} {xs : List (Int × Int)} (h : SlV φ a cap xs) {k n : Nat} (hn : Hid (xs.length = n)) (hk : k < n) :
    ∃ b off, a = some ⟨b, off, none⟩ ∧ ∀ k, k < n → ∀ w, Fz φ w → b < w.heap.size ∧ w.cell? ⟨b, off + k * 2, none⟩ = some (.int .i64 (xs.getD k (0, 0)).1) ∧ w.cell? ⟨b, off + k * 2 + 1, none⟩ = some (.int .i64 (xs.getD k (0, 0)).2) := by
  obtain ⟨b, off, ha, hc⟩ := h.at_ (by intro e; subst e; have := hn.out; simp at this; omega)
  refine ⟨b, off, ha, fun k hk w hw => ?_⟩
  obtain ⟨cs, hr, hj⟩ := hc k (by rw [hn.out]; exact hk)
  obtain ⟨c, d, rfl, h1, h2⟩ := hr
  have h1' : c = [.int .i64 (xs[k]'(by rw [hn.out]; exact hk)).1] := h1
  have h2' : d = [.int .i64 (xs[k]'(by rw [hn.out]; exact hk)).2] := h2
  subst h1'; subst h2'
  have j0 := hj 0 (by simp)
  have j1 := hj 1 (by simp)
  simp [Rep.size] at j0 j1
  rw [List.getD_eq_getElem?_getD, List.getElem?_eq_getElem (by rw [hn.out]; exact hk)]
  exact ⟨hw.lt j0, hw.cell j0, hw.cell j1⟩

abbrev attM (l : List (Int × Int)) (k : Nat) : Int := (l.getD k (0, 0)).1
def attBad (l : List (Int × Int)) (k : Nat) : Int :=
  if outB (l.getD k (0, 0)).1 0 1099511627776 = true then 1
  else if outB (l.getD k (0, 0)).2 1 7 = true then 4
  else if 0 < k ∧ (l.getD k (0, 0)).1 < (l.getD (k - 1) (0, 0)).1 then 7 else 0
def attF (l : List (Int × Int)) : Int := if 100 < l.length then 2 else scan (attBad l) l.length
theorem attF_at {l : List (Int × Int)} {n k : Nat} (hn : Hid (l.length = n)) (hl : n ≤ 100) (hk : k < n) (h : Hid (∀ i, i < k → attBad l i = 0)) {c : Int} (hc : attBad l k = c) (h0 : c ≠ 0) : attF l = c := by
  rw [attF, if_neg (by rw [hn.out]; omega), hn.out, scan_stop h.out hk (by rw [hc]; exact h0), hc]
theorem attF_ok {l : List (Int × Int)} {n : Nat} (hn : Hid (l.length = n)) (hl : n ≤ 100) (h : Hid (∀ i, i < n → attBad l i = 0)) : attF l = 0 := by
  rw [attF, if_neg (by rw [hn.out]; omega), hn.out, scan_zero _ _ h.out]
theorem attBad_next {l : List (Int × Int)} {k : Nat} (h : Hid (∀ i, i < k → attBad l i = 0)) (hk : attBad l k = 0) : Hid (∀ i, i < k + 1 → attBad l i = 0) := by
  refine Lib.hid fun i hi => ?_
  by_cases e : i = k
  · subst e; exact hk
  · exact h.out i (by omega)

theorem outside_t (n lo hi : Int) (w : World) (h : outB n lo hi = true) :
    Calls Try.prog 19 #[.int .i64 n, .int .i64 lo, .int .i64 hi] w fun e w' => e = .returned (.bool true) ∧ w = w' := by rw [← h]; exact outside_any n lo hi w
theorem outside_f (n lo hi : Int) (w : World) (h : outB n lo hi = false) :
    Calls Try.prog 19 #[.int .i64 n, .int .i64 lo, .int .i64 hi] w fun e w' => e = .returned (.bool false) ∧ w = w' := by rw [← h]; exact outside_any n lo hi w
theorem within_any (n lo hi : Int) (w : World) :
    Calls Try.prog 28 #[.int .i64 n, .int .i64 lo, .int .i64 hi] w fun e w' => e = .returned (.bool (!outB n lo hi)) ∧ w = w' := by
  by_cases h : lo ≤ n
  · by_cases h2 : n ≤ hi
    · have H := Lib.hid (outB_false.2 ⟨h, h2⟩)
      rw [H.out]
      go_enter Try.func28, Try.ntmps28
      go_wp2
      go_ret
      exact ⟨ret_bool (by simp), rfl⟩
    · have H := Lib.hid (outB_true (lo := lo).2 (.inr (Int.not_le.1 h2)))
      rw [H.out]
      go_enter Try.func28, Try.ntmps28
      go_wp2
      go_ret
      exact ⟨ret_bool (by simp), rfl⟩
  · have H := Lib.hid (outB_true (hi := hi).2 (.inl (Int.not_le.1 h)))
    rw [H.out]
    go_enter Try.func28, Try.ntmps28
    go_wp2
    go_ret
    exact ⟨ret_bool (by simp), rfl⟩
theorem within_f (n lo hi : Int) (w : World) (h : outB n lo hi = true) :
    Calls Try.prog 28 #[.int .i64 n, .int .i64 lo, .int .i64 hi] w fun e w' => e = .returned (.bool false) ∧ w = w' := by have := within_any n lo hi w; rw [h] at this; exact this
theorem within_t (n lo hi : Int) (w : World) (h : outB n lo hi = false) :
    Calls Try.prog 28 #[.int .i64 n, .int .i64 lo, .int .i64 hi] w fun e w' => e = .returned (.bool true) ∧ w = w' := by have := within_any n lo hi w; rw [h] at this; exact this

def IntB (c : Int) (w : World) (e : Ending) (w' : World) : Prop := e = .returned (.int .i64 c) ∧ Below w.heap.size w w'

set_option maxHeartbeats 400000 in
theorem attFault_any (n : Nat) (a : Option Addr) (cap : Nat) (l : List (Int × Int)) (w : World) (φ : Phi) (hφ : Fz φ w) (s : SlV φ a cap l) (hn : Hid (l.length = n)) :
    Calls Try.prog 24 #[.slice a n cap] w (IntB (attF l) w) := by
  by_cases hl : 100 < n
  · go_enter Try.func24, Try.ntmps24
    go_wp2
    go_ret
    exact ⟨ret_int (by rw [attF, hn.out, if_pos hl]), Below.refl _ _⟩
  · go_enter Try.func24, Try.ntmps24
    go_wp2
    go_loopw [10] (fun i wr => ∃ k : Nat, k ≤ n ∧ i = .int .i64 k ∧ Hid (∀ i, i < k → attBad l i = 0) ∧ Below w.heap.size w wr) (fun i _ => n - (intOf i).toNat)
    case atStart => exact ⟨0, Nat.zero_le _, rfl, Lib.hid (fun i hi => by omega), Below.refl _ _⟩
    case round =>
      obtain ⟨k, hk, rfl, hok, hbel⟩ := hrel
      by_cases hlt : k < n
      · obtain ⟨b, off, rfl, f⟩ := s.pairsD hn hlt
        have hf := hφ.below hbel
        obtain ⟨hb, c1, c2⟩ := f k hlt wr hf
        have hp : 0 < k → wr.cell? ⟨b, off + (k - 1) * 2, none⟩ = some (.int .i64 (l.getD (k - 1) (0, 0)).1) := fun h => (f (k - 1) (by omega) wr hf).2.1
        have hbad : Hid (attBad l k = _) := Lib.hid (attBad.eq_1 l k)
        have HP := Lib.hid hp
        clear f hp
        generalize (l.getD k (0, 0)).1 = m at *
        generalize (l.getD k (0, 0)).2 = o at *
        generalize (l.getD (k - 1) (0, 0)).1 = p at *
        have hbel2 : ∀ o, Below w.heap.size w (wr.alloc o) := fun o => hbel.alloc hbel.size o
        by_cases h1 : outB m 0 1099511627776 = true
        · have H1 := Lib.hid h1
          clear h1
          go_wp2_with (go_at_call 19; refine (outside_t _ _ _ _ H1.out).mono ?_; rintro e w' ⟨rfl, rfl⟩)
          go_ret
          exact ⟨ret_int (attF_at hn (by omega) hlt hok (by rw [hbad.out, if_pos H1.out]) (by decide)).symm, hbel2 _⟩
        have H1 := Lib.hid (Bool.not_eq_true _ ▸ h1 : outB m 0 1099511627776 = false)
        clear h1
        by_cases h2 : outB o 1 7 = true
        · have H2 := Lib.hid h2
          clear h2
          go_wp2_with fail
          refine (outside_f _ _ _ _ H1.out).mono ?_
          rintro e w' ⟨rfl, rfl⟩
          go_wp2_with fail
          refine (outside_t _ _ _ _ H2.out).mono ?_
          rintro e w' ⟨rfl, rfl⟩
          go_wp2
          go_ret
          exact ⟨ret_int (attF_at hn (by omega) hlt hok (by rw [hbad.out, if_neg (by rw [H1.out]; simp), if_pos H2.out]) (by decide)).symm, hbel2 _⟩
        have H2 := Lib.hid (Bool.not_eq_true _ ▸ h2 : outB o 1 7 = false)
        clear h2
        go_wp2_with fail
        refine (outside_f _ _ _ _ H1.out).mono ?_
        rintro e w' ⟨rfl, rfl⟩
        go_wp2_with fail
        refine (outside_f _ _ _ _ H2.out).mono ?_
        rintro e w' ⟨rfl, rfl⟩
        by_cases h3 : 0 < k
        · have hpp := HP.out h3
          have h3i : (0 : Int) < k := by omega
          have hix : 0 ≤ (k : Int) - 1 := by omega
          have hix2 : (k : Int) - 1 < n := by omega
          have hw1 : IntKind.i64.wrap ((k : Int) - 1) = k - 1 := IntWalk.i64_in _ (by omega)
          have hto : ((k : Int) - 1).toNat = k - 1 := by omega
          by_cases h4 : m < p
          · go_wp2_with fail
            go_quiet (fail)
            go_wp2
            go_ret
            exact ⟨ret_int (attF_at hn (by omega) hlt hok (by rw [hbad.out, if_neg (by rw [H1.out]; simp), if_neg (by rw [H2.out]; simp), if_pos ⟨h3, h4⟩]) (by decide)).symm, bdrewN (hbel2 _) _⟩
          · go_wp2_with fail
            go_quiet (fail)
            clear hw1 hto
            go_wp2
            go_roundw
            case rel => exact ⟨k + 1, by omega, by go_num, attBad_next hok (by rw [hbad.out, if_neg (by rw [H1.out]; simp), if_neg (by rw [H2.out]; simp), if_neg (by omega)]), bdrewN (hbel2 _) _⟩
            case measure => simp [intOf]; omega
        · have h3i : decide ((0 : Int) < k) = false := decide_eq_false (by omega)
          go_wp2_with fail
          go_quiet (fail)
          go_wp2
          go_roundw
          case rel => exact ⟨k + 1, by omega, by go_num, attBad_next hok (by rw [hbad.out, if_neg (by rw [H1.out]; simp), if_neg (by rw [H2.out]; simp), if_neg (by omega)]), bdrewN (hbel2 _) _⟩
          case measure => simp [intOf]; omega
      · obtain rfl : k = n := by omega
        go_wp2
        go_ret
        exact ⟨ret_int (attF_ok hn (by omega) hok).symm, hbel⟩
end Go.Proofs.Ytmgdeenjdoennaa
