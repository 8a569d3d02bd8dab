import Derived.Test.YtmgdeenjdoennaaRows
import Derived.Test.YtmgdeenjdoennaaMem
namespace Go.Proofs.Ytmgdeenjdoennaa
open Go.RowKit

theorem sl22 : SliceTy Try.prog 22 3 (.int .i64 0) (Rep.size Int) 8 := ⟨Try.underlying22, by kernel_rfl, rfl, by decide, by decide⟩

theorem SlV.ints {φ : Phi} {a : Option Addr} {cap : Nat} {xs : List Int} (h : SlV φ a cap xs) {k : Nat} (hk : k < xs.length) :
    ∃ b off, a = some ⟨b, off, none⟩ ∧ ∀ w, Fz φ w → b < w.heap.size ∧ w.cell? ⟨b, off + k, none⟩ = some (.int .i64 xs[k]) := by
  obtain ⟨b, off, rfl, hc⟩ := h.elem hk
  obtain ⟨cs, rfl, hj⟩ := hc k hk
  have := hj 0 (by simp)
  simp [Rep.size] at this
  exact ⟨b, off, rfl, fun w hw => ⟨hw.lt this, hw.cell this⟩⟩

def outB (n lo hi : Int) : Bool := decide (n < lo) || decide (n > hi)

theorem outside_any (n lo hi : Int) (w : World) :
    Calls Try.prog 19 #[.int .i64 n, .int .i64 lo, .int .i64 hi] w fun e w' => e = .returned (.bool (outB n lo hi)) ∧ w = w' := by
  go_enter Try.func19, Try.ntmps19
  by_cases h : n < lo
  · go_wp2
    go_ret
    exact ⟨by simp [outB, h], rfl⟩
  · go_wp2
    go_ret
    exact ⟨by simp [outB]; omega, rfl⟩

def belowL (bound start whole take : Int) : Int := if bound ≤ start then 0 else min ((bound - start + whole - 1) / whole) take

theorem below_any (bound start whole take : Int) (w : World) (h0 : 0 ≤ start) (h1 : start < whole) (h2 : 0 ≤ bound) (h3 : bound ≤ 1000000000000000000) (h4 : whole ≤ 1000000000000000000) :
    Calls Try.prog 32 #[.int .i64 bound, .int .i64 start, .int .i64 whole, .int .i64 take] w fun e w' => e = .returned (.int .i64 (belowL bound start whole take)) ∧ w = w' := by
  go_enter Try.func32, Try.ntmps32
  by_cases hs : bound ≤ start
  · go_wp2
    go_ret
    exact ⟨by simp [belowL, hs], rfl⟩
  · go_wp2
    all_goals
      go_ret
      exact ⟨by rw [belowL, if_neg (by omega)]; simp; omega, rfl⟩

def sumL (l : List Int) : Int := l.foldl (· + ·) 0
theorem sumL_snoc (l : List Int) (x : Int) : sumL (l ++ [x]) = sumL l + x := by simp [sumL]
theorem sumL_bd (c : Int) (l : List Int) (h : ∀ x ∈ l, 0 ≤ x ∧ x ≤ c) : 0 ≤ sumL l ∧ sumL l ≤ l.length * c := by
  suffices H : ∀ (l : List Int) (s : Int), (∀ x ∈ l, 0 ≤ x ∧ x ≤ c) → s ≤ l.foldl (· + ·) s ∧ l.foldl (· + ·) s ≤ s + l.length * c by
    have := H l 0 h; unfold sumL; constructor <;> omega
  intro l
  induction l with
  | nil => intro s _; simp
  | cons x l ih =>
    intro s hl
    have := ih (s + x) (fun y hy => hl y (by simp [hy]))
    have hx := hl x (by simp)
    simp only [List.foldl_cons, List.length_cons]
    have e : ((l.length + 1 : Nat) : Int) * c = l.length * c + c := by rw [Int.natCast_add, Int.add_mul]; simp
    rw [e]
    constructor <;> omega

theorem take_snoc {α : Type} (l : List α) (k : Nat) (h : k < l.length) : l.take (k + 1) = l.take k ++ [l[k]] := by
  rw [List.take_add_one, List.getElem?_eq_getElem h]; rfl

/-- What 'hits' appends in a round. -/
def hitL (whole take start past m : Int) : Int := belowL (take * (past + m)) start whole take - belowL (take * past) start whole take
def hitsTo (sizes : List Int) (take start : Int) (k : Nat) : List Int :=
  (List.range k).map fun i => hitL (sumL sizes) take start (sumL (sizes.take i)) (sizes.getD i 0)
def hitsL (sizes : List Int) (take start : Int) : List Int := hitsTo sizes take start sizes.length
theorem hitsTo_succ (sizes : List Int) (take start : Int) (k : Nat) : hitsTo sizes take start (k + 1) = hitsTo sizes take start k ++ [hitL (sumL sizes) take start (sumL (sizes.take k)) (sizes.getD k 0)] := by
  simp [hitsTo, List.range_succ]
theorem hitsTo_snoc (sizes : List Int) (take start W past m : Int) (k : Nat) (hk : k < sizes.length) (hW : sumL sizes = W) (hP : sumL (sizes.take k) = past) (hX : sizes[k] = m) : hitsTo sizes take start (k + 1) = hitsTo sizes take start k ++ [belowL (take * (past + m)) start W take - belowL (take * past) start W take] := by
  rw [hitsTo_succ, hW, hP]; simp [hk, hX, hitL]
theorem hitsTo_len (sizes : List Int) (take start : Int) (k : Nat) : (hitsTo sizes take start k).length = k := by simp [hitsTo]
theorem belowL_bd (bound start whole take : Int) (h : 0 ≤ take) (h0 : 0 ≤ start) (h1 : start < whole) : 0 ≤ belowL bound start whole take ∧ belowL bound start whole take ≤ take := by
  unfold belowL
  split
  · omega
  · have : 0 ≤ (bound - start + whole - 1) / whole := Int.ediv_nonneg (by omega) (by omega)
    omega

def SlPost (B : Nat) (w0 : World) (φ0 : Phi) (xs : List Int) (e : Ending) (w' : World) : Prop :=
  ∃ a cap φ', e = .returned (.slice a xs.length cap) ∧ Inv B w0 φ0 φ' w' ∧ SlV φ' a cap xs

set_option maxHeartbeats 400000 in
theorem hits_any (a : Option Addr) (cap : Nat) (sizes : List Int) (take start : Int) (w : World) (φ : Phi) (hφ : Fz φ w) (hs : SlV φ a cap sizes)
    (hlen : sizes.length ≤ 5000) (hpos : ∀ x ∈ sizes, 1 ≤ x ∧ x ≤ 5000000000) (t0 : 0 ≤ take) (t1 : take ≤ 5000) (s0 : 0 ≤ start) (s1 : start < sumL sizes) :
    Calls Try.prog 20 #[.slice a sizes.length cap, .int .i64 take, .int .i64 start] w (SlPost w.heap.size w φ (hitsL sizes take start)) := by
  have hpt : ∀ k, 0 ≤ sumL (sizes.take k) ∧ sumL (sizes.take k) ≤ 5000 * 5000000000 := by
    intro k
    have := sumL_bd 5000000000 (sizes.take k) (fun x hx => by have := hpos x (List.mem_of_mem_take hx); omega)
    have hl : (sizes.take k).length ≤ 5000 := Nat.le_trans (List.length_take_le' _ _) hlen
    omega
  go_enter Try.func20, Try.ntmps20
  go_wp2
  go_loop [7, 16] (fun s i => ∃ k : Nat, k ≤ sizes.length ∧ i = .int .i64 k ∧ s = .int .i64 (sumL (sizes.take k))) (fun _ i => sizes.length - (intOf i).toNat)
  case atStart => exact ⟨0, Nat.zero_le _, rfl, rfl⟩
  case round =>
    obtain ⟨k, hk, rfl, rfl⟩ := hrel
    have hb := hpt k
    by_cases hlt : k < sizes.length
    · obtain ⟨b, off, rfl, hc⟩ := hs.ints hlt
      have hck := (hc w hφ).2
      have hx := hpos _ (List.getElem_mem hlt)
      go_wp2
      go_round
      case rel => exact ⟨k + 1, by omega, by go_num, by rw [take_snoc _ _ hlt, sumL_snoc]⟩
      case measure => simp [intOf]; omega
    · obtain rfl : k = sizes.length := by omega
      have hw := hpt sizes.length
      rw [List.take_length] at hw hb ⊢
      clear hk hlt
      generalize hW : sumL sizes = W at *
      go_wp2_with (at_make; refine wpList_mk0 (α := Int) rfl _ _ 22 rfl sl22 (Inv.start hφ) _ _ sizes.length rfl rfl (by omega) ?_; intro w1 hi1 hown1 hg1)
      go_loopw [10, 11, 29] (fun o p i wr => ∃ k : Nat, k ≤ sizes.length ∧ i = .int .i64 k ∧ p = .int .i64 (sumL (sizes.take k)) ∧ ∃ a' cap', o = .slice a' (hitsTo sizes take start k).length cap' ∧ Inv w.heap.size w φ φ wr ∧ Own w.heap.size φ wr 3 a' cap' (hitsTo sizes take start k)) (fun _ _ i _ => sizes.length - (intOf i).toNat)
      case atStart => exact ⟨0, Nat.zero_le _, rfl, rfl, _, _, rfl, hi1, hown1⟩
      case round =>
        obtain ⟨k, hk, rfl, rfl, a', cap', rfl, hi, hown⟩ := hrel
        have hb := hpt k
        have hol : (hitsTo sizes take start k).length ≤ k := Nat.le_of_eq (hitsTo_len sizes take start k)
        by_cases hlt : k < sizes.length
        · obtain ⟨b, off, rfl, hc⟩ := hs.ints hlt
          have hck := (hc wr hi.fz).2
          have hx := hpos _ (List.getElem_mem hlt)
          have hb1 := hpt (k + 1)
          rw [take_snoc _ _ hlt, sumL_snoc] at hb1
          generalize hP : sumL (sizes.take k) = past at *
          generalize hX : sizes[k] = m at *
          have m1 : 0 ≤ take * (past + m) ∧ take * (past + m) ≤ 5000 * (past + m) := ⟨Int.mul_nonneg t0 (by omega), Int.mul_le_mul_of_nonneg_right t1 (by omega)⟩
          have m2 : 0 ≤ take * past ∧ take * past ≤ 5000 * past := ⟨Int.mul_nonneg t0 (by omega), Int.mul_le_mul_of_nonneg_right t1 (by omega)⟩
          have q1 := belowL_bd (take * (past + m)) start W take t0 s0 s1
          have q2 := belowL_bd (take * past) start W take t0 s0 s1
          go_wp2_with fail
          refine (below_any _ _ _ _ _ s0 s1 (by omega) (by omega) (by omega)).mono ?_
          rintro e w' ⟨rfl, rfl⟩
          go_wp2_with fail
          refine (below_any _ _ _ _ _ s0 s1 (by omega) (by omega) (by omega)).mono ?_
          rintro e w' ⟨rfl, rfl⟩
          go_wp2_with (at_builtin; refine wpList_app1 rfl _ _ 22 rfl sl22 hi a' cap' _ hown _ _ (belowL (take * (past + m)) start W take - belowL (take * past) start W take) rfl rfl 1 rfl (by omega) ?_; intro a2 cap2 w2 hi2 hown2 _)
          go_wp2
          go_roundw
          case rel => exact ⟨k + 1, by omega, by go_num, by rw [take_snoc _ _ hlt, sumL_snoc, hP, hX], a2, cap2, by rw [hitsTo_snoc _ _ _ _ _ _ _ hlt hW hP hX, List.length_append]; rfl, hi2, by rw [hitsTo_snoc _ _ _ _ _ _ _ hlt hW hP hX]; exact hown2⟩
          case measure => simp [intOf]; omega
        · obtain rfl : k = sizes.length := by omega
          go_wp2
          go_ret
          obtain ⟨φ', _, hi', hs', _⟩ := hown.release hi
          exact ⟨a', cap', φ', rfl, hi', hs'⟩
end Go.Proofs.Ytmgdeenjdoennaa
