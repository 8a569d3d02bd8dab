/- slices.Index and slices.Contains at []int; what Due answers. Conditions: none beyond what the claim form gives. -/
import Derived.Test.YtmgdeenjdoennaaC6
import Derived.Test.YtmgdeenjdoennaaC4
namespace Go.Proofs.Ytmgdeenjdoennaa
open Go.RowKit
set_option linter.unusedVariables false

def Ix (xs : List Int) (x : Int) (i : Int) : Prop := (i = -1 ∧ x ∉ xs) ∨ (0 ≤ i ∧ x ∈ xs)
def IxPost (xs : List Int) (x : Int) (w : World) (e : Ending) (w' : World) : Prop := ∃ i, Ix xs x i ∧ -1 ≤ i ∧ e = .returned (.int .i64 i) ∧ w = w'
theorem Index_any (n : Nat) (a : Option Addr) (cap : Nat) (xs : List Int) (x : Int) (w : World) (φ : Phi) (hφ : Fz φ w) (s : SlV φ a cap xs) (hn : Hid (xs.length = n)) (hm : n ≤ 9223372036854775807) :
    Calls Try.prog 33 #[.slice a n cap, .int .i64 x] w (IxPost xs x w) := by
  go_enter Try.func33, Try.ntmps33
  go_wp2
  go_loop [8] (fun i => ∃ k : Nat, k ≤ n ∧ i = .int .i64 k ∧ Hid (∀ i, i < k → xs.getD i 0 ≠ x)) (fun i => n - (intOf i).toNat)
  case atStart => exact ⟨0, Nat.zero_le _, rfl, Lib.hid (fun i hi => by omega)⟩
  case round =>
    obtain ⟨k, hk, rfl, hok⟩ := hrel
    by_cases hlt : k < n
    · obtain ⟨b, off, rfl, f⟩ := s.intsD2 hn hlt
      obtain ⟨hb, c1⟩ := f k hlt w hφ
      have hg : Hid (xs.getD k 0 ∈ xs) := Lib.hid (by rw [getD_elem0 _ _ (by rw [hn.out]; exact hlt)]; exact List.getElem_mem _)
      have hne0 : Hid (xs.getD k 0 = xs.getD k 0) := Lib.hid rfl
      have hnx : Hid (xs.getD k 0 ≠ x → ∀ i, i < k + 1 → xs.getD i 0 ≠ x) := Lib.hid (fun h i hi => by
        by_cases e : i = k
        · subst e; exact h
        · exact hok.out i (by omega))
      clear f
      generalize xs.getD k 0 = y at *
      by_cases he : x = y
      · have hb1 : (x == y) = true := by simp [he]
        have HE := Lib.hid he
        clear he
        go_wp2
        go_ret
        exact ⟨k, .inr ⟨by omega, by rw [HE.out]; exact hg.out⟩, by omega, rfl, rfl⟩
      · have hb1 : (x == y) = false := by simp [he]
        have HE := Lib.hid he
        clear he
        go_wp2
        go_round
        case rel => exact ⟨k + 1, by omega, by go_num, Lib.hid (hnx.out (fun h => HE.out h.symm))⟩
        case measure => simp [intOf]; omega
    · obtain rfl : k = n := by omega
      go_wp2
      go_ret
      refine ⟨-1, .inl ⟨rfl, fun hm => ?_⟩, by omega, rfl, rfl⟩
      obtain ⟨i, hi, he⟩ := List.getElem_of_mem hm
      exact hok.out i (by rw [← hn.out]; exact hi) (by rw [getD_elem0 _ _ hi]; exact he)
theorem Contains_any (n : Nat) (a : Option Addr) (cap : Nat) (xs : List Int) (x : Int) (w : World) (φ : Phi) (hφ : Fz φ w) (s : SlV φ a cap xs) (hn : Hid (xs.length = n)) (hm : n ≤ 9223372036854775807) :
    Calls Try.prog 30 #[.slice a n cap, .int .i64 x] w fun e w' => e = .returned (.bool (decide (x ∈ xs))) ∧ w = w' := by
  go_enter Try.func30, Try.ntmps30
  go_wp2_with fail
  refine (Index_any n a cap xs x w φ hφ s hn hm).mono ?_
  rintro e w' ⟨i, hi, hi1, rfl, rfl⟩
  have HI := Lib.hid hi
  clear hi
  by_cases h : 0 ≤ i
  · go_wp2
    go_ret
    refine ⟨ret_bool (decide_eq_true ?_).symm, rfl⟩
    rcases HI.out with h1 | h1
    · omega
    · exact h1.2
  · go_wp2
    go_ret
    have hx : ¬ x ∈ xs := by
      rcases HI.out with h1 | h1
      · exact h1.2
      · omega
    exact ⟨ret_bool (by simp [hx]; omega), rfl⟩
theorem Contains_t (n : Nat) (a : Option Addr) (cap : Nat) (xs : List Int) (x : Int) (w : World) (φ : Phi) (hφ : Fz φ w) (s : SlV φ a cap xs) (hn : Hid (xs.length = n)) (hm : n ≤ 9223372036854775807) (h : x ∈ xs) :
    Calls Try.prog 30 #[.slice a n cap, .int .i64 x] w fun e w' => e = .returned (.bool true) ∧ w = w' := by
  have := Contains_any n a cap xs x w φ hφ s hn hm; rwa [decide_eq_true h] at this
theorem Contains_f (n : Nat) (a : Option Addr) (cap : Nat) (xs : List Int) (x : Int) (w : World) (φ : Phi) (hφ : Fz φ w) (s : SlV φ a cap xs) (hn : Hid (xs.length = n)) (hm : n ≤ 9223372036854775807) (h : ¬ x ∈ xs) :
    Calls Try.prog 30 #[.slice a n cap, .int .i64 x] w fun e w' => e = .returned (.bool false) ∧ w = w' := by
  have := Contains_any n a cap xs x w φ hφ s hn hm; rwa [decide_eq_false h] at this

def atD (F m0 : Int) (d : Nat) : Int := max m0 (d * 1440 + F)
def hitD (days : List Int) (F T m0 : Int) (d : Nat) : Prop := ((d : Int) + 3) % 7 ∈ days ∧ atD F m0 d < d * 1440 + T
/-- The first day from that of m0 on that is hit. -/
def Star (days : List Int) (F T m0 : Int) (d : Nat) : Prop := m0 / 1440 ≤ d ∧ hitD days F T m0 d ∧ ∀ d' : Nat, m0 / 1440 ≤ d' → d' < d → ¬ hitD days F T m0 d'
theorem least_of (P : Nat → Prop) (a : Nat) : ∀ n, P (a + n) → ∃ d, a ≤ d ∧ P d ∧ ∀ d', a ≤ d' → d' < d → ¬ P d' := by
  intro n
  induction n using Nat.strongRecOn with
  | _ n ih =>
    intro hp
    by_cases h : ∃ m, m < n ∧ P (a + m)
    · obtain ⟨m, hm, hpm⟩ := h; exact ih m hm hpm
    · exact ⟨a + n, by omega, hp, fun d' h1 h2 hp' => h ⟨d' - a, by omega, by rw [show a + (d' - a) = d' by omega]; exact hp'⟩⟩
theorem star_ex {days : List Int} {F T m0 : Int} (h0 : 0 ≤ m0) (hF : 0 ≤ F) (hT : F < T) (hT2 : T ≤ 1440) (hd : ∃ x ∈ days, 0 ≤ x ∧ x ≤ 6) : ∃ d, Star days F T m0 d ∧ d ≤ m0 / 1440 + 7 := by
  obtain ⟨x, hx, x0, x1⟩ := hd
  obtain ⟨q, hq⟩ : ∃ q : Nat, (q : Int) = m0 / 1440 := ⟨(m0 / 1440).toNat, by omega⟩
  obtain ⟨n, hn1, hn2, hn3⟩ : ∃ n : Nat, 1 ≤ n ∧ n ≤ 7 ∧ (((q + n : Nat) : Int) + 3) % 7 = x := by
    refine ⟨((x - q - 4) % 7).toNat + 1, by omega, by omega, by omega⟩
  have hit : hitD days F T m0 (q + n) := by
    refine ⟨by rw [hn3]; exact hx, ?_⟩
    unfold atD
    omega
  obtain ⟨d, h1, h2, h3⟩ := least_of (hitD days F T m0) q n hit
  refine ⟨d, ⟨by omega, h2, fun d' e1 e2 => h3 d' (by omega) e2⟩, ?_⟩
  by_cases hle : d ≤ q + n
  · omega
  · exact absurd hit (h3 (q + n) (by omega) (by omega))
theorem star_uniq {days : List Int} {F T m0 : Int} {d d' : Nat} (h : Star days F T m0 d) (h' : Star days F T m0 d') : d = d' := by
  rcases Nat.lt_trichotomy d d' with hl | he | hl
  · exact absurd h.2.1 (h'.2.2 d h.1 hl)
  · exact he
  · exact absurd h'.2.1 (h.2.2 d' h'.1 hl)

def startM (gap : Int) (l : List (Int × Int)) (minute : Int) : Int := if 0 < l.length then max minute ((l.getD (l.length - 1) (0, 0)).1 + gap) else minute
open Classical in
noncomputable def DueF (most gap : Int) (days : List Int) (wins l : List (Int × Int)) (minute : Int) : Int × Bool × Int :=
  if chkF most gap days wins ≠ 0 then (0, false, chkF most gap days wins)
  else if attF l ≠ 0 then (0, false, attF l)
  else if outB minute 0 1099511627776 = true then (0, false, 1)
  else if outTo l l.length = 1 ∨ outTo l l.length = 2 ∨ outTo l l.length = 4 ∨ most ≤ l.length then (0, false, 0)
  else if h : ∃ d, Star days (nextTo ((l.length : Int) + 1) l wins l.length wins.length).1.1 (nextTo ((l.length : Int) + 1) l wins l.length wins.length).1.2 (startM gap l minute) d then
    (if 1099511627776 < atD (nextTo ((l.length : Int) + 1) l wins l.length wins.length).1.1 (startM gap l minute) (Classical.choose h) then (0, false, 0)
     else (atD (nextTo ((l.length : Int) + 1) l wins l.length wins.length).1.1 (startM gap l minute) (Classical.choose h), true, 0))
  else (0, false, 0)
end Go.Proofs.Ytmgdeenjdoennaa
