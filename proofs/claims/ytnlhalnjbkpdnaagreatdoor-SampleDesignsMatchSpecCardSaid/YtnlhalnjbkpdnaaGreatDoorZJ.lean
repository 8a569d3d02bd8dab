/- Chances of pairs: the plain law. The walks of starts and both, the program's side. Conditions: sizes of a systematic draw. The walk of both, the program's side. Conditions: sizes of a systematic draw. The walks of together, placeOf and slices.Index, the reference's side; of pair, the program's. Conditions: sizes of a systematic draw; whole numbers of few digits. The state of joint, the program's side, and what its calls do to it. Conditions: none beyond what the claim form gives. -/
import Derived.Test.YtnlhalnjbkpdnaaGreatDoorZI
namespace Go.Proofs.YtnlhalnjbkpdnaaGreatDoor
open Go.RowKit Go.Sort
set_option linter.unusedVariables false
set_option linter.unusedSimpArgs false
abbrev Spn := Int × Int
def ovl (p q : Spn) : Int := max 0 (min p.2 q.2 - max p.1 q.1)
/-- The starts by which an element is hit: from A on, L of them, modulo W. -/
def spL (W A L : Int) : List Spn := if A + L ≤ W then [(A, A + L)] else [(A, W), (0, A + L - W)]
def bthV (W A L B R : Int) : Int := ((spL W A L).map (fun p => ((spL W B R).map (fun q => ovl p q)).sum)).sum
def togV (W A L B R : Int) : Int := max 0 (min (A + L) (B + -W + R) - max A (B + -W)) + max 0 (min (A + L) (B + 0 + R) - max A (B + 0)) + max 0 (min (A + L) (B + W + R) - max A (B + W))
theorem both_tog {W A L B R : Int} (hA : 0 ≤ A) (hA2 : A < W) (hL : 0 ≤ L) (hL2 : L ≤ W) (hB : 0 ≤ B) (hB2 : B < W) (hR : 0 ≤ R) (hR2 : R ≤ W) : bthV W A L B R = togV W A L B R := by
  unfold bthV spL togV
  by_cases h1 : A + L ≤ W
  · by_cases h2 : B + R ≤ W
    · rw [if_pos h1, if_pos h2]
      have e1 : max 0 (min (A + L) (B + -W + R) - max A (B + -W)) = 0 := by omega
      have e2 : max 0 (min (A + L) (B + W + R) - max A (B + W)) = 0 := by omega
      rw [e1, e2]
      simp only [List.map_cons, List.map_nil, List.sum_cons, List.sum_nil, ovl]
      omega
    · rw [if_pos h1, if_neg h2]
      have e1 : max 0 (min (A + L) (B + -W + R) - max A (B + -W)) = max 0 (min (A + L) (B + R - W) - max A 0) := by omega
      have e2 : max 0 (min (A + L) (B + W + R) - max A (B + W)) = 0 := by omega
      have e3 : max 0 (min (A + L) (B + 0 + R) - max A (B + 0)) = max 0 (min (A + L) W - max A B) := by omega
      rw [e1, e2, e3]
      simp only [List.map_cons, List.map_nil, List.sum_cons, List.sum_nil, ovl]
      generalize max 0 (min (A + L) (B + R - W) - max A 0) = x
      generalize max 0 (min (A + L) W - max A B) = y
      omega
  · by_cases h2 : B + R ≤ W
    · rw [if_neg h1, if_pos h2]
      have e1 : max 0 (min (A + L) (B + -W + R) - max A (B + -W)) = 0 := by omega
      have e2 : max 0 (min (A + L) (B + W + R) - max A (B + W)) = max 0 (min (A + L - W) (B + R) - max 0 B) := by omega
      have e3 : max 0 (min (A + L) (B + 0 + R) - max A (B + 0)) = max 0 (min W (B + R) - max A B) := by omega
      rw [e1, e2, e3]
      simp only [List.map_cons, List.map_nil, List.sum_cons, List.sum_nil, ovl]
      generalize max 0 (min (A + L - W) (B + R) - max 0 B) = x
      generalize max 0 (min W (B + R) - max A B) = y
      omega
    · rw [if_neg h1, if_neg h2]
      have e1 : max 0 (min (A + L) (B + -W + R) - max A (B + -W)) = max 0 (min W (B + R - W) - max A 0) := by omega
      have e2 : max 0 (min (A + L) (B + W + R) - max A (B + W)) = max 0 (min (A + L - W) W - max 0 B) := by omega
      have e3 : max 0 (min (A + L) (B + 0 + R) - max A (B + 0)) = max 0 (min W W - max A B) + max 0 (min (A + L - W) (B + R - W) - max 0 0) := by omega
      rw [e1, e2, e3]
      simp only [List.map_cons, List.map_nil, List.sum_cons, List.sum_nil, ovl]
      generalize max 0 (min W (B + R - W) - max A 0) = x
      generalize max 0 (min (A + L - W) W - max 0 B) = y
      generalize max 0 (min W W - max A B) = z
      generalize max 0 (min (A + L - W) (B + R - W) - max 0 0) = u
      omega
/-- Where an element's starts begin, and how many they are. -/
def posI (xs : List Int) (t : Int) (i : Nat) : Int := (t * (xs.take i).sum).tmod xs.sum
def lenI (xs : List Int) (t : Int) (i : Nat) : Int := t * xs.getD i 0
def bthI (xs : List Int) (t : Int) (i k : Nat) : Int := bthV xs.sum (posI xs t i) (lenI xs t i) (posI xs t k) (lenI xs t k)
theorem le_max_fold {xs : List Int} : ∀ (m : Int), m ≤ xs.foldl max m ∧ ∀ x ∈ xs, x ≤ xs.foldl max m := by
  induction xs with
  | nil => intro m; exact ⟨Int.le_refl _, by simp⟩
  | cons y xs ih =>
    intro m
    rw [List.foldl_cons]
    obtain ⟨h1, h2⟩ := ih (max m y)
    refine ⟨by omega, fun x hx => ?_⟩
    rcases List.mem_cons.1 hx with rfl | hx
    · omega
    · exact h2 x hx
theorem le_mxL {xs : List Int} {x : Int} (h : x ∈ xs) : x ≤ mxL xs := by
  unfold mxL Lib.maxOf
  cases xs with
  | nil => simp at h
  | cons y ys =>
    exact (le_max_fold (xs := y :: ys) y).2 x h
/-- What a systematic draw over sizes needs. -/
structure SyOk (xs : List Int) (n : Nat) (t sm : Int) : Prop where
  len : xs.length = n
  hi : n ≤ 5000
  t0 : 0 ≤ t
  t1 : t ≤ 5000
  el : ∀ x ∈ xs, 0 ≤ x ∧ x ≤ 5000000000
  sum : xs.sum = sm
  s0 : 0 < sm
  s1 : sm ≤ 5000000000
  big : ∀ x ∈ xs, t * x ≤ sm
theorem SyOk.pre {xs : List Int} {n : Nat} {t sm : Int} (h : SyOk xs n t sm) (k : Nat) : 0 ≤ (xs.take k).sum ∧ (xs.take k).sum ≤ 5000000000 := pre_all (fun x hx => (h.el x hx).1) (by rw [h.sum]; exact h.s1) k
theorem SyOk.mul {xs : List Int} {n : Nat} {t sm : Int} (h : SyOk xs n t sm) (k : Nat) : 0 ≤ t * (xs.take k).sum ∧ t * (xs.take k).sum ≤ 25000000000000 := by
  have := h.pre k
  refine ⟨Int.mul_nonneg h.t0 this.1, Int.le_trans (Int.mul_le_mul h.t1 this.2 this.1 (by decide)) (by decide)⟩
theorem SyOk.pos {xs : List Int} {n : Nat} {t sm : Int} (h : SyOk xs n t sm) (k : Nat) : 0 ≤ posI xs t k ∧ posI xs t k < sm := by
  unfold posI
  rw [h.sum]
  exact ⟨Int.tmod_nonneg _ (h.mul k).1, Int.tmod_lt_of_pos _ h.s0⟩
theorem SyOk.len_ {xs : List Int} {n : Nat} {t sm : Int} (h : SyOk xs n t sm) {k : Nat} (hk : k < n) : 0 ≤ lenI xs t k ∧ lenI xs t k ≤ sm := by
  unfold lenI
  have hm : xs.getD k 0 ∈ xs := by rw [getD_elem0 _ _ _ (by rw [h.len]; exact hk)]; exact List.getElem_mem _
  exact ⟨Int.mul_nonneg h.t0 (h.el _ hm).1, h.big _ hm⟩
theorem SyOk.both {xs : List Int} {n : Nat} {t sm : Int} (h : SyOk xs n t sm) {i k : Nat} (hi : i < n) (hk : k < n) : bthI xs t i k = togV sm (posI xs t i) (lenI xs t i) (posI xs t k) (lenI xs t k) := by
  unfold bthI
  rw [h.sum]
  have p1 := h.pos i
  have p2 := h.pos k
  have l1 := h.len_ hi
  have l2 := h.len_ hk
  exact both_tog p1.1 p1.2 l1.1 l1.2 p2.1 p2.2 l2.1 l2.2
theorem spL_len (W A L : Int) : (spL W A L).length ≤ 2 := by unfold spL; split <;> simp
/-- First places. -/
def iU (us : List Unt) (id : Int) : Nat := us.findIdx (fun y => decide (y.1 = id))
def iC (us : List Unt) (c : Int) : Nat := (cnsL us).findIdx (fun x => decide (x = c))
theorem fnd_idx {α : Type} {xs : List α} {d : α} {f : α → Int} {z : Int} {n : Nat} (hn : xs.length = n) (h : ∃ x ∈ xs, f x = z) {v : Int} (hv : Fnd (fun i => f (xs.getD i d) = z) n v) : v = (xs.findIdx (fun y => decide (f y = z)) : Nat) ∧ xs.findIdx (fun y => decide (f y = z)) < n ∧ f (xs.getD (xs.findIdx (fun y => decide (f y = z))) d) = z := by
  subst hn
  have hlt : xs.findIdx (fun y => decide (f y = z)) < xs.length := List.findIdx_lt_length_of_exists (by obtain ⟨x, hx, e⟩ := h; exact ⟨x, hx, by simp [e]⟩)
  have hp : f (xs.getD (xs.findIdx (fun y => decide (f y = z))) d) = z := by
    rw [getD_elem0 _ _ _ hlt]
    have := List.findIdx_getElem (w := hlt)
    simpa using this
  refine ⟨hv.hit hlt hp (fun i hi => ?_), hlt, hp⟩
  have := List.not_of_lt_findIdx hi
  rw [getD_elem0 _ _ _ (by omega)]
  simpa using this
/-- The chance that two units of one stratum are both drawn. -/
def jnR (kind : Int) (t : Tak) (us : List Unt) (u v : Unt) : Rat :=
  if kind = 1 then ((t.2.1 * (t.2.1 - 1) : Int) : Rat) / ((((us.length : Int) * ((us.length : Int) - 1) : Int)) : Rat)
  else if kind = 2 then ((bthI (szL us) t.2.1 (iU us u.1) (iU us v.1) : Int) : Rat) / ((szU us : Int) : Rat)
  else if u.2.2.1 = v.2.2.1 then (((t.2.1 * szU (clU us u.2.2.1) : Int) : Rat) / ((szU us : Int) : Rat)) * (((t.2.2 * (t.2.2 - 1) : Int) : Rat) / (((((clU us u.2.2.1).length : Int) * (((clU us u.2.2.1).length : Int) - 1) : Int)) : Rat))
  else (((bthI (csL us) t.2.1 (iC us u.2.2.1) (iC us v.2.2.1) : Int) : Rat) / ((szU us : Int) : Rat)) * (((t.2.2 : Rat) / ((((clU us u.2.2.1).length : Int)) : Rat)) * ((t.2.2 : Rat) / ((((clU us v.2.2.1).length : Int)) : Rat)))
/-- The chance that two units of a frame are both drawn. -/
def prR (kind : Int) (ts : List Tak) (l : List Unt) (u v : Unt) : Rat :=
  if u.1 = v.1 then chR kind (tkOf ts u.2.1) (stU l u.2.1) u
  else if u.2.1 = v.2.1 then jnR kind (tkOf ts u.2.1) (stU l u.2.1) u v
  else chR kind (tkOf ts u.2.1) (stU l u.2.1) u * chR kind (tkOf ts v.2.1) (stU l v.2.1) v
noncomputable def jntR (kind : Int) (ts : List Tak) (l : List Unt) (a b : Int) : Rti × Int :=
  if dsgF kind ts l ≠ 0 then ((⟨#[]⟩, ⟨#[]⟩), dsgF kind ts l)
  else if (∃ u ∈ l, u.1 = a) ∧ (∃ u ∈ l, u.1 = b) then (shtT (prR kind ts l (l.getD (iU l a) unt0) (l.getD (iU l b) unt0)), 0) else ((⟨#[]⟩, ⟨#[]⟩), 9)
end Go.Proofs.YtnlhalnjbkpdnaaGreatDoor

namespace Go.Proofs.YtnlhalnjbkpdnaaGreatDoor
open Go.RowKit Go.Sort
set_option linter.unusedVariables false
set_option linter.unusedSimpArgs false
theorem SlV.spnD {φ : Phi} {a : Option Addr} {cap : Nat} {xs : List Spn} (h : SlV φ a cap xs) {k n : Nat} (hn : Hid (xs.length = n)) (hk : k < n) :
    ∃ b off, a = some ⟨b, off, none⟩ ∧ ∀ k, k < n → ∀ w, Fz φ w → b < w.heap.size ∧ w.cell? ⟨b, off + k * 2, none⟩ = some (.int .i64 (xs.getD k (0, 0)).1) ∧ w.cell? ⟨b, off + k * 2 + 1, none⟩ = some (.int .i64 (xs.getD k (0, 0)).2) := by
  obtain ⟨b, off, ha, hc⟩ := h.cellsD ((0, 0) : Spn) hn hk
  refine ⟨b, off, ha, fun k hk w hw => ?_⟩
  obtain ⟨cs, ⟨c, d, rfl, h1, h2⟩, hj⟩ := hc k hk
  cases h1; cases h2
  have j0 := hj 0 (by simp)
  have j1 := hj 1 (by simp)
  simp [Rep.size] at j0 j1
  exact ⟨hw.lt j0, hw.cell j0, hw.cell j1⟩
theorem rep_spn (φ : Phi) (x y : Int) : Rep.rep φ ((x, y) : Spn) [.int .i64 x, .int .i64 y] := ⟨[.int .i64 x], [.int .i64 y], rfl, rfl, rfl⟩
theorem sum_stepD {xs : List Int} {n k : Nat} (hn : xs.length = n) (hk : k < n) : (xs.take (k + 1)).sum = (xs.take k).sum + xs.getD k 0 := by
  rw [take_snocD 0 xs k n hn hk, List.sum_append]; simp
set_option maxRecDepth 100000 in
set_option maxHeartbeats 4000000 in
theorem starts_any {w : World} {a : Option Addr} {c n : Nat} {xs : List Int} {t sm : Int} {i : Nat} {φ : Phi} (hφ : Fz φ w) (s : SlV φ a c xs) (hS : Hid (SyOk xs n t sm)) (hi : i < n) {A L : Int} (hA : Hid (posI xs t i = A)) (hL : Hid (lenI xs t i = L)) :
    Calls Tryz.prog 159 #[.slice a n c, .int .i64 t, .int .i64 (i : Int)] w (SlP (spL sm A L) φ w) := by
  have HF := Lib.hid hφ
  have hn := hS.out.hi
  have hle : Hid (xs.length = n) := Lib.hid hS.out.len
  go_enter Tryz.func159, Tryz.ntmps159
  go_wp2
  go_loop [7, 8, 15] (fun wh pa ix => ∃ (k : Nat) (x y : Int), k ≤ n ∧ ix = .int .i64 k ∧ wh = .int .i64 x ∧ pa = .int .i64 y ∧ Hid ((xs.take k).sum = x) ∧ Hid ((xs.take (min k i)).sum = y)) (fun _ _ ix => n - (intOf ix).toNat)
  case atStart => exact ⟨0, 0, 0, Nat.zero_le _, rfl, rfl, rfl, Lib.hid rfl, Lib.hid (by rw [Nat.zero_min]; rfl)⟩
  case round =>
    obtain ⟨k, x, y, hk, rfl, rfl, rfl, hx, hy⟩ := hrel
    by_cases hlt : k < n
    · obtain ⟨b, off, rfl, f⟩ := s.intsD hle hlt
      obtain ⟨hb0, c1⟩ := f k hlt w HF.out
      have h1 := hS.out.pre k
      have h2 := hS.out.pre (k + 1)
      have h3 := hS.out.pre (min k i)
      have h4 := hS.out.pre (min (k + 1) i)
      have hst := Lib.hid (sum_stepD hS.out.len hlt)
      have hsp : Hid ((xs.take (min (k + 1) i)).sum = if k < i then y + xs.getD k 0 else y) := Lib.hid (by
        split
        · next h => rw [show min (k + 1) i = k + 1 by omega, hst.out, ← hy.out, show min k i = k by omega]
        · next h => rw [show min (k + 1) i = min k i by omega, hy.out])
      rw [hst.out, hx.out] at h2
      rw [hx.out] at h1
      rw [hy.out] at h3
      rw [hsp.out] at h4
      rw [hx.out] at hst
      clear f
      generalize xs.getD k 0 = z at *
      have hw1 : IntKind.i64.wrap (x + z) = x + z := IntWalk.i64_in _ (by omega)
      by_cases hki : k < i
      · rw [if_pos hki] at h4 hsp
        have hw2 : IntKind.i64.wrap (y + z) = y + z := IntWalk.i64_in _ (by omega)
        go_wp2
        go_round
        case rel => exact ⟨k + 1, x + z, y + z, by omega, by go_num, rfl, rfl, hst, hsp⟩
        case measure => (simp [intOf] <;> omega)
      · rw [if_neg hki] at h4 hsp
        go_wp2
        go_round
        case rel => exact ⟨k + 1, x + z, y, by omega, by go_num, rfl, rfl, hst, hsp⟩
        case measure => (simp [intOf] <;> omega)
    · obtain rfl : n = k := by omega
      have ex : xs.take n = xs := by rw [← hle.out, List.take_length]
      rw [ex, hS.out.sum] at hx
      rw [show min n i = i by omega] at hy
      have hx2 := hx.out
      subst hx2
      obtain ⟨b, off, rfl, f⟩ := s.intsD hle hi
      obtain ⟨hb0, c1⟩ := f i hi w HF.out
      have hm := hS.out.mul i
      have hp := hS.out.pos i
      have hl := hS.out.len_ hi
      have hs0 := hS.out.s0
      have hs1 := hS.out.s1
      have hA2 : Hid ((t * y).tmod sm = A) := Lib.hid (by rw [← hA.out, ← hy.out, ← hS.out.sum]; rfl)
      have hL2 : Hid (t * xs.getD i 0 = L) := Lib.hid hL.out
      rw [hy.out] at hm
      rw [hA.out] at hp
      rw [hL.out] at hl
      have hL3 := hL2.out
      clear f
      generalize xs.getD i 0 = z at *
      have hne : ¬ sm = 0 := by omega
      have hbe : (sm == 0) = false := by simp [hne]
      have hw1 : IntKind.i64.wrap (t * y) = t * y := IntWalk.i64_in _ (by omega)
      have hw2 : IntKind.i64.wrap (t * z) = L := by rw [hL3]; exact IntWalk.i64_in _ (by omega)
      have hA3 := hA2.out
      have hw3 : IntKind.i64.wrap A = A := IntWalk.i64_in _ (by omega)
      have hw4 : IntKind.i64.wrap (A + L) = A + L := IntWalk.i64_in _ (by omega)
      have hw5 : IntKind.i64.wrap (A + L - sm) = A + L - sm := IntWalk.i64_in _ (by omega)
      by_cases hc : A + L ≤ sm
      · have g1 : decide (A + L ≤ sm) = true := decide_eq_true hc
        have HE : Hid (spL sm A L = [(A, A + L)]) := Lib.hid (by unfold spL; rw [if_pos hc])
        obtain ⟨φ', l1, i1, s1⟩ := SlV.lit (α := Spn) HF.out 210 (xs := [(A, A + L)]) (arr := #[.int .i64 A, .int .i64 (A + L)]) (RepL.single (rep_spn φ A (A + L))) (by simp [maxLen])
        have I1 := Lib.hid i1
        have S1 := Lib.hid s1
        clear hc i1 s1 l1 hL3 hm hp hl
        go_wp2
        go_ret
        exact ⟨some ⟨w.heap.size, 0, none⟩, 1, φ', by rw [HE.out]; rfl, I1.out, by rw [HE.out]; exact S1.out⟩
      · have g1 : decide (A + L ≤ sm) = false := decide_eq_false hc
        have HE : Hid (spL sm A L = [(A, sm), (0, A + L - sm)]) := Lib.hid (by unfold spL; rw [if_neg hc])
        obtain ⟨φ', l1, i1, s1⟩ := SlV.lit (α := Spn) HF.out 210 (xs := [(A, sm), (0, A + L - sm)]) (arr := #[.int .i64 A, .int .i64 sm, .int .i64 0, .int .i64 (A + L - sm)]) (RepL.append (RepL.single (rep_spn φ 0 (A + L - sm))) (RepL.single (rep_spn φ A sm))) (by simp [maxLen])
        have I1 := Lib.hid i1
        have S1 := Lib.hid s1
        clear hc i1 s1 l1 hL3 hm hp hl
        go_wp2
        go_ret
        exact ⟨some ⟨w.heap.size, 0, none⟩, 2, φ', by rw [HE.out]; rfl, I1.out, by rw [HE.out]; exact S1.out⟩
end Go.Proofs.YtnlhalnjbkpdnaaGreatDoor

namespace Go.Proofs.YtnlhalnjbkpdnaaGreatDoor
open Go.RowKit Go.Sort
set_option linter.unusedVariables false
set_option linter.unusedSimpArgs false
theorem sumF_bd {α : Type} {l : List α} {f : α → Int} {B : Int} (h : ∀ x ∈ l, 0 ≤ f x ∧ f x ≤ B) : 0 ≤ (l.map f).sum ∧ (l.map f).sum ≤ (l.length : Int) * B := by
  induction l with
  | nil => simp
  | cons x l ih =>
    have h1 := h x (by simp)
    have h2 := ih (fun y hy => h y (by simp [hy]))
    rw [List.map_cons, List.sum_cons, List.length_cons, Int.natCast_add, Int.add_mul]
    omega
theorem spL_in {W A L : Int} (hA : 0 ≤ A) (hA2 : A < W) (hL : 0 ≤ L) (hL2 : L ≤ W) : ∀ p ∈ spL W A L, 0 ≤ p.1 ∧ p.1 ≤ W ∧ 0 ≤ p.2 ∧ p.2 ≤ W := by
  intro p hp
  unfold spL at hp
  split at hp
  · simp at hp; subst hp; dsimp only; omega
  · simp at hp
    rcases hp with rfl | rfl <;> (dsimp only; omega)
/-- One pair of spans. -/
theorem ovl_in {W : Int} {p q : Spn} (hp : 0 ≤ p.1 ∧ p.1 ≤ W ∧ 0 ≤ p.2 ∧ p.2 ≤ W) (hq : 0 ≤ q.1 ∧ q.1 ≤ W ∧ 0 ≤ q.2 ∧ q.2 ≤ W) : 0 ≤ ovl p q ∧ ovl p q ≤ W := by
  unfold ovl; omega
theorem ovlS_snoc {s : List Spn} {n k : Nat} (hn : s.length = n) (hk : k < n) (f : Spn → Int) : ((s.take (k + 1)).map f).sum = ((s.take k).map f).sum + f (s.getD k (0, 0)) := by
  rw [take_snocD (0, 0) s k n hn hk, List.map_append, List.sum_append]; simp
set_option maxRecDepth 100000 in
set_option maxHeartbeats 4000000 in
theorem both_any {w : World} {a : Option Addr} {c n : Nat} {xs : List Int} {t sm : Int} {i k : Nat} {φ : Phi} (hφ : Fz φ w) (s : SlV φ a c xs) (hS : Hid (SyOk xs n t sm)) (hi : i < n) (hk : k < n) {R : Int} (hR : Hid (bthI xs t i k = R)) :
    Calls Tryz.prog 105 #[.slice a n c, .int .i64 t, .int .i64 (i : Int), .int .i64 (k : Int)] w (fun e w' => e = .returned (.int .i64 R) ∧ Below w.heap.size w w') := by
  have HF := Lib.hid hφ
  have HS := Lib.hid s
  obtain ⟨A, hA⟩ : ∃ x, Hid (posI xs t i = x) := ⟨_, Lib.hid rfl⟩
  obtain ⟨L, hL⟩ : ∃ x, Hid (lenI xs t i = x) := ⟨_, Lib.hid rfl⟩
  obtain ⟨B, hB⟩ : ∃ x, Hid (posI xs t k = x) := ⟨_, Lib.hid rfl⟩
  obtain ⟨Q, hQ⟩ : ∃ x, Hid (lenI xs t k = x) := ⟨_, Lib.hid rfl⟩
  have b1 := hS.out.pos i
  have b2 := hS.out.len_ hi
  have b3 := hS.out.pos k
  have b4 := hS.out.len_ hk
  rw [hA.out] at b1
  rw [hL.out] at b2
  rw [hB.out] at b3
  rw [hQ.out] at b4
  obtain ⟨P1, hP1⟩ : ∃ x, Hid (spL sm A L = x) := ⟨_, Lib.hid rfl⟩
  obtain ⟨P2, hP2⟩ : ∃ x, Hid (spL sm B Q = x) := ⟨_, Lib.hid rfl⟩
  obtain ⟨n1, hn1⟩ : ∃ x, Hid (P1.length = x) := ⟨_, Lib.hid rfl⟩
  obtain ⟨n2, hn2⟩ : ∃ x, Hid (P2.length = x) := ⟨_, Lib.hid rfl⟩
  have l1 : n1 ≤ 2 := by rw [← hn1.out, ← hP1.out]; exact spL_len _ _ _
  have l2 : n2 ≤ 2 := by rw [← hn2.out, ← hP2.out]; exact spL_len _ _ _
  have in1 : Hid (∀ p ∈ P1, 0 ≤ p.1 ∧ p.1 ≤ sm ∧ 0 ≤ p.2 ∧ p.2 ≤ sm) := Lib.hid (by rw [← hP1.out]; exact spL_in b1.1 b1.2 b2.1 b2.2)
  have in2 : Hid (∀ p ∈ P2, 0 ≤ p.1 ∧ p.1 ≤ sm ∧ 0 ≤ p.2 ∧ p.2 ≤ sm) := Lib.hid (by rw [← hP2.out]; exact spL_in b3.1 b3.2 b4.1 b4.2)
  have hs1 := hS.out.s1
  have hs0 := hS.out.s0
  have hR2 : Hid ((P1.map (fun p => (P2.map (fun q => ovl p q)).sum)).sum = R) := Lib.hid (by
    rw [← hR.out, ← hP1.out, ← hP2.out, ← hA.out, ← hL.out, ← hB.out, ← hQ.out, ← hS.out.sum]; rfl)
  have FB : Hid (∀ p ∈ P1, 0 ≤ (P2.map (fun q => ovl p q)).sum ∧ (P2.map (fun q => ovl p q)).sum ≤ 10000000000) := Lib.hid (fun p hp => by
    have := sumF_bd (l := P2) (f := fun q => ovl p q) (B := sm) (fun q hq => ovl_in (in1.out p hp) (in2.out q hq))
    rw [hn2.out] at this
    refine ⟨this.1, Int.le_trans this.2 ?_⟩
    rcases (by omega : n2 = 0 ∨ n2 = 1 ∨ n2 = 2) with h | h | h <;> rw [h] <;> omega)
  clear b1 b2 b3 b4 hφ s
  go_enter Tryz.func105, Tryz.ntmps105
  go_wp2_with (go_at_call 159; (with_reducible refine (starts_any HF.out HS.out hS hi hA hL).mono ?_); rintro e w1 ⟨a1, c1, φ1, rfl, hi1, s1⟩; rw [hP1.out] at s1 ⊢; rw [hn1.out]; have I1 := Lib.hid hi1; have S1 := Lib.hid s1; have HS1 := Lib.hid (HS.out.mono hi1.le); clear hi1 s1)
  go_loopw [9, 19] (fun o ix wr => ∃ (j : Nat) (v : Int), j ≤ n1 ∧ ix = .int .i64 j ∧ o = .int .i64 v ∧ Hid (((P1.take j).map (fun p => (P2.map (fun q => ovl p q)).sum)).sum = v) ∧ Hid (Fz φ1 wr ∧ Below w.heap.size w wr)) (fun _ ix _ => n1 - (intOf ix).toNat)
  case atStart => exact ⟨0, 0, Nat.zero_le _, rfl, rfl, Lib.hid rfl, Lib.hid ⟨I1.out.fz, I1.out.bel⟩⟩
  case round =>
    clear I1
    obtain ⟨j, v, hj, rfl, rfl, hv, hI⟩ := hrel
    by_cases hlt : j < n1
    · obtain ⟨b, off, rfl, f⟩ := S1.out.spnD hn1 hlt
      obtain ⟨hb, c1, c2⟩ := f j hlt wr hI.out.1
      have hpm : P1.getD j (0, 0) ∈ P1 := by rw [getD_elem0 _ _ _ (by rw [hn1.out]; exact hlt)]; exact List.getElem_mem _
      have hst := Lib.hid (ovlS_snoc hn1.out hlt (fun p => (P2.map (fun q => ovl p q)).sum))
      have hvb := sumF_bd (l := P1.take j) (f := fun p => (P2.map (fun q => ovl p q)).sum) (B := 10000000000) (fun p hp => FB.out p (List.mem_of_mem_take hp))
      rw [hv.out, List.length_take, hn1.out, show min j n1 = j by omega] at hvb
      have hvb2 : 0 ≤ v ∧ v ≤ 20000000000 := ⟨hvb.1, Int.le_trans hvb.2 (by omega)⟩
      have hIn := in1.out _ hpm
      rw [hv.out] at hst
      clear f hpm hvb
      generalize P1.getD j (0, 0) = p at *
      obtain ⟨p1, p2⟩ := p
      dsimp only at c1 c2 hIn
      obtain ⟨φ3, hle3, hi3, hb3⟩ := (Inv.start hI.out.1).frz (.cells #[.int .i64 p1, .int .i64 p2] 210)
      have HB3 := Lib.hid hb3
      have HF3 := Lib.hid hi3.fz
      have L3 := Lib.hid hle3
      have HBw := Lib.hid (hI.out.2.alloc hI.out.2.size (.cells #[.int .i64 p1, .int .i64 p2] 210))
      clear hle3 hi3 hb3
      go_upto_region 5 with (fail)
      clear c1 c2 hb hI
      generalize wr.alloc (.cells #[.int .i64 p1, .int .i64 p2] 210) = wj at *
      generalize wr.heap.size = bj at *
      go_wp2_with (go_at_call 159; (with_reducible refine (starts_any HF3.out (HS1.out.mono L3.out) hS hk hB hQ).mono ?_); rintro e w4 ⟨a4, c4, φ4, rfl, hi4, s4⟩; rw [hP2.out] at s4 ⊢; rw [hn2.out]; have S4 := Lib.hid s4; have L4 := Lib.hid hi4.le; have I4 := Lib.hid (And.intro hi4.fz (HBw.out.trans (hi4.bel.mono HBw.out.size))); clear hi4 s4)
      go_loopw [9, 28] (fun o ix wr => ∃ (m : Nat) (u : Int), m ≤ n2 ∧ ix = .int .i64 m ∧ o = .int .i64 u ∧ Hid (v + ((P2.take m).map (fun q => ovl (p1, p2) q)).sum = u) ∧ Hid (Fz φ4 wr ∧ Below w.heap.size w wr)) (fun _ ix _ => n2 - (intOf ix).toNat)
      case atStart => exact ⟨0, v, Nat.zero_le _, rfl, rfl, Lib.hid (by simp), I4⟩
      case round =>
        clear I4
        obtain ⟨m, u, hm, rfl, rfl, hu, hJ⟩ := hrel
        by_cases hlm : m < n2
        · obtain ⟨b2, off2, rfl, f⟩ := S4.out.spnD hn2 hlm
          obtain ⟨hb2, d1, d2⟩ := f m hlm wr hJ.out.1
          have hqm : P2.getD m (0, 0) ∈ P2 := by rw [getD_elem0 _ _ _ (by rw [hn2.out]; exact hlm)]; exact List.getElem_mem _
          have hst2 := Lib.hid (ovlS_snoc hn2.out hlm (fun q => ovl (p1, p2) q))
          have hub := sumF_bd (l := P2.take m) (f := fun q => ovl (p1, p2) q) (B := 5000000000) (fun q hq => by have := ovl_in (p := (p1, p2)) hIn (in2.out q (List.mem_of_mem_take hq)); omega)
          rw [List.length_take, hn2.out, show min m n2 = m by omega] at hub
          have hub2 : 0 ≤ u ∧ u ≤ 30000000000 := by
            have := hu.out
            omega
          have hIq := in2.out _ hqm
          have hst3 : Hid (v + ((P2.take (m + 1)).map (fun q => ovl (p1, p2) q)).sum = u + ovl (p1, p2) (P2.getD m (0, 0))) := Lib.hid (by rw [hst2.out, ← Int.add_assoc, hu.out])
          clear f hqm hub hst2 hu
          generalize P2.getD m (0, 0) = q at *
          obtain ⟨q1, q2⟩ := q
          dsimp only at d1 d2 hIq
          have hob := ovl_in (p := (p1, p2)) (q := (q1, q2)) hIn hIq
          have hoe : Hid (ovl (p1, p2) (q1, q2) = max 0 (min p2 q2 - max p1 q1)) := Lib.hid rfl
          rw [hoe.out] at hst3 hob
          have hK := Lib.hid (Blk.new wr #[.int .i64 q1, .int .i64 q2] 210)
          have HJ2 := Lib.hid (And.intro (hJ.out.1.alloc (.cells #[.int .i64 q1, .int .i64 q2] 210)) (hJ.out.2.alloc hJ.out.2.size (.cells #[.int .i64 q1, .int .i64 q2] 210)))
          go_upto_region 8 with (fail)
          clear d1 d2 hb2 hJ
          generalize wr.alloc (.cells #[.int .i64 q1, .int .i64 q2] 210) = wk at *
          generalize wr.heap.size = bk at *
          have x0 : wk.cell? ⟨bj, 0, none⟩ = some (.int .i64 p1) := box_cell HB3.out L4.out HJ2.out.1 0
          have x1 : wk.cell? ⟨bj, 1, none⟩ = some (.int .i64 p2) := box_cell HB3.out L4.out HJ2.out.1 1
          have y0 : wk.cell? ⟨bk, 0, none⟩ = some (.int .i64 q1) := hK.out.cell 0
          have y1 : wk.cell? ⟨bk, 1, none⟩ = some (.int .i64 q2) := hK.out.cell 1
          have hw1 : IntKind.i64.wrap (min p2 q2 - max p1 q1) = min p2 q2 - max p1 q1 := IntWalk.i64_in _ (by omega)
          have hw2 : IntKind.i64.wrap (u + max 0 (min p2 q2 - max p1 q1)) = u + max 0 (min p2 q2 - max p1 q1) := IntWalk.i64_in _ (by omega)
          go_wp2
          go_roundw
          case rel => exact ⟨m + 1, u + max 0 (min p2 q2 - max p1 q1), by omega, by go_num, rfl, hst3, HJ2⟩
          case measure => (simp [intOf] <;> omega)
        · obtain rfl : n2 = m := by omega
          have ex : P2.take n2 = P2 := by rw [← hn2.out, List.take_length]
          rw [ex] at hu
          go_wp2
          go_roundw
          case rel => exact ⟨j + 1, u, by omega, by go_num, rfl, Lib.hid (by rw [hst.out, hu.out]), Lib.hid ⟨hJ.out.1.sub (L3.out.trans L4.out), hJ.out.2⟩⟩
          case measure => (simp [intOf] <;> omega)
    · obtain rfl : n1 = j := by omega
      have ex : P1.take n1 = P1 := by rw [← hn1.out, List.take_length]
      rw [ex, hR2.out] at hv
      have HV := hv.out
      go_wp2
      go_ret
      exact ⟨ret_int HV.symm, hI.out.2⟩
end Go.Proofs.YtnlhalnjbkpdnaaGreatDoor

namespace Go.Proofs.YtnlhalnjbkpdnaaGreatDoor
open Go.RowKit Go.Sort
set_option linter.unusedVariables false
set_option linter.unusedSimpArgs false
set_option maxHeartbeats 1000000 in
theorem IndexI_f {w : World} {φ : Phi} (hφ : Fz φ w) (n : Nat) (a : Option Addr) (cap : Nat) (l : List Int) (z : Int) (sl : SlV φ a cap l) (hn : Hid (l.length = n)) {v : Int} (hv : Hid (Fnd (fun i => l.getD i 0 = z) n v)) :
    Calls Tryz.prog 66 #[.slice a n cap, .int .i64 z] w (fun e w' => e = .returned (.int .i64 v) ∧ w' = w) := by
  have hm : n ≤ 9223372036854775807 := by have h1 := sl.capn; have h2 := sl.capm; rw [hn.out] at h1; unfold maxLen at h2; omega
  go_enter Tryz.func66, Tryz.ntmps66
  go_wp2
  go_loop [8] (fun i => ∃ k : Nat, k ≤ n ∧ i = .int .i64 k ∧ Hid (∀ i, i < k → ¬ l.getD i 0 = z)) (fun i => n - (intOf i).toNat)
  case atStart => exact ⟨0, Nat.zero_le _, rfl, Lib.hid (fun i hi => by omega)⟩
  case round =>
    obtain ⟨k, hk2, rfl, hno⟩ := hrel
    by_cases hlt : k < n
    · obtain ⟨b1, o1, rfl, f⟩ := sl.intsD hn hlt
      obtain ⟨hb1, d0⟩ := f k hlt w hφ
      have HY : Hid (l.getD k 0 = z → v = k) := Lib.hid (fun h => hv.out.hit hlt h hno.out)
      have HN : Hid (¬ l.getD k 0 = z → ∀ i, i < k + 1 → ¬ l.getD i 0 = z) := Lib.hid (fun h i hi => by
        by_cases e : i = k
        · subst e; exact h
        · exact hno.out i (by omega))
      clear f
      generalize l.getD k 0 = g at *
      by_cases he : g = z
      · have H := Lib.hid (HY.out he)
        have hg : ((z : Int) == g) = true := by simp [he]
        clear HY HN he
        go_wp2
        go_ret
        exact ⟨ret_int H.out.symm, rfl⟩
      · have H := Lib.hid (HN.out he)
        have hg : ((z : Int) == g) = false := by simp; exact fun q => he q.symm
        clear HY HN he
        go_wp2
        go_round
        case rel => exact ⟨k + 1, by omega, by go_num, H⟩
        case measure => (simp [intOf] <;> omega)
    · obtain rfl : k = n := by omega
      have H : Hid (v = -1) := Lib.hid (hv.out.none hno.out)
      go_wp2
      go_ret
      exact ⟨ret_int H.out.symm, rfl⟩
set_option maxHeartbeats 1000000 in
theorem placeOf_f {w : World} {φ : Phi} (hφ : Fz φ w) (n : Nat) (a : Option Addr) (cap : Nat) (l : List Unt) (z : Int) (sl : SlV φ a cap l) (hn : Hid (l.length = n)) {v : Int} (hv : Hid (Fnd (fun i => (l.getD i unt0).1 = z) n v)) :
    Calls Tryz.prog 44 #[.slice a n cap, .int .i64 z] w (fun e w' => e = .returned (.int .i64 v) ∧ Below w.heap.size w w') := by
  have hm : n ≤ 9223372036854775807 := by have h1 := sl.capn; have h2 := sl.capm; rw [hn.out] at h1; unfold maxLen at h2; omega
  go_enter Tryz.func44, Tryz.ntmps44
  go_wp2
  go_loopw [9] (fun i wr => ∃ k : Nat, k ≤ n ∧ i = .int .i64 k ∧ Hid (∀ i, i < k → ¬ (l.getD i unt0).1 = z) ∧ Hid (Below w.heap.size w wr)) (fun i _ => n - (intOf i).toNat)
  case atStart => exact ⟨0, Nat.zero_le _, rfl, Lib.hid (fun i hi => by omega), Lib.hid (Below.refl _ _)⟩
  case round =>
    obtain ⟨k, hk2, rfl, hno, hB⟩ := hrel
    by_cases hlt : k < n
    · obtain ⟨b1, o1, rfl, f⟩ := sl.untD hn hlt
      obtain ⟨hb1, d0, d1, d2, d3⟩ := f k hlt wr (hφ.below hB.out)
      have HY : Hid ((l.getD k unt0).1 = z → v = k) := Lib.hid (fun h => hv.out.hit hlt h hno.out)
      have HN : Hid (¬ (l.getD k unt0).1 = z → ∀ i, i < k + 1 → ¬ (l.getD i unt0).1 = z) := Lib.hid (fun h i hi => by
        by_cases e : i = k
        · subst e; exact h
        · exact hno.out i (by omega))
      clear f
      generalize l.getD k unt0 = g at *
      obtain ⟨g1, g2, g3, g4⟩ := g
      dsimp only at d0 d1 d2 d3 HY HN
      have HB2 := Lib.hid (hB.out.alloc hB.out.size (.cells #[.int .i64 g1, .string g2, .int .i64 g3, .int .i64 g4] 64))
      have hK := Lib.hid (Blk.new wr #[.int .i64 g1, .string g2, .int .i64 g3, .int .i64 g4] 64)
      go_upto_region 4 with (fail)
      clear d0 d1 d2 d3 hb1 hB
      generalize wr.alloc (.cells #[.int .i64 g1, .string g2, .int .i64 g3, .int .i64 g4] 64) = wj at *
      generalize wr.heap.size = bj at *
      have y0 : wj.cell? ⟨bj, 0, none⟩ = some (.int .i64 g1) := hK.out.cell 0
      by_cases he : g1 = z
      · have H := Lib.hid (HY.out he)
        have hg : ((g1 : Int) == z) = true := by simp [he]
        clear HY HN he
        go_wp2
        go_ret
        exact ⟨ret_int H.out.symm, HB2.out⟩
      · have H := Lib.hid (HN.out he)
        have hg : ((g1 : Int) == z) = false := by simp [he]
        clear HY HN he
        go_wp2
        go_roundw
        case rel => exact ⟨k + 1, by omega, by go_num, H, HB2⟩
        case measure => (simp [intOf] <;> omega)
    · obtain rfl : k = n := by omega
      have H : Hid (v = -1) := Lib.hid (hv.out.none hno.out)
      go_wp2
      go_ret
      exact ⟨ret_int H.out.symm, hB.out⟩
/-- One of the three shifts. -/
def shV (A L B R x : Int) : Int := max 0 (min (A + L) (B + x + R) - max A (B + x))
theorem sh_sum (W A L B R : Int) : (([-W, 0, W] : List Int).map (shV A L B R)).sum = togV W A L B R := by
  simp only [List.map_cons, List.map_nil, List.sum_cons, List.sum_nil, shV, togV]
  generalize max 0 (min (A + L) (B + -W + R) - max A (B + -W)) = x
  generalize max 0 (min (A + L) (B + 0 + R) - max A (B + 0)) = y
  generalize max 0 (min (A + L) (B + W + R) - max A (B + W)) = z
  omega
theorem int_snoc {s : List Int} {n k : Nat} (hn : s.length = n) (hk : k < n) (f : Int → Int) : ((s.take (k + 1)).map f).sum = ((s.take k).map f).sum + f (s.getD k 0) := by
  rw [take_snocD 0 s k n hn hk, List.map_append, List.sum_append]; simp
theorem tot_pre {W : World} {a : Option Addr} {c n : Nat} {xs : List Int} {t sm : Int} {φ : Phi} (hf : Fz φ W) (s : SlV φ a c xs) (h : Hid (SyOk xs n t sm)) {i : Nat} (hi : i ≤ n) {y : Int} (hy : Hid ((xs.take i).sum = y)) :
    Calls Tryz.prog 90 #[.slice a i c] W (fun e w' => e = .returned (.int .i64 y) ∧ w' = W) := by
  have hl : Hid ((xs.take i).length = i) := Lib.hid (by rw [List.length_take, h.out.len]; omega)
  refine (Rtotal_any hf (s.take i) hl (by have := h.out.hi; omega) (Lib.hid (fun k hk => ?_))).mono fun e w' q => ⟨by rw [q.1, hy.out], q.2.symm⟩
  rw [List.take_take]
  exact h.out.pre _
theorem tot_all {W : World} {a : Option Addr} {c n : Nat} {xs : List Int} {t sm : Int} {φ : Phi} (hf : Fz φ W) (s : SlV φ a c xs) (h : Hid (SyOk xs n t sm)) :
    Calls Tryz.prog 90 #[.slice a n c] W (fun e w' => e = .returned (.int .i64 sm) ∧ w' = W) :=
  tot_pre hf s h (Nat.le_refl _) (Lib.hid (by rw [← h.out.len, List.take_length, h.out.sum]))
set_option maxRecDepth 100000 in
set_option maxHeartbeats 4000000 in
theorem together_any {w : World} {a : Option Addr} {c n : Nat} {xs : List Int} {t sm : Int} {i k : Nat} {φ : Phi} (hφ : Fz φ w) (s : SlV φ a c xs) (hS : Hid (SyOk xs n t sm)) (hi : i < n) (hk : k < n) {R : Int} (hR : Hid (bthI xs t i k = R)) :
    Calls Tryz.prog 108 #[.slice a n c, .int .i64 t, .int .i64 (i : Int), .int .i64 (k : Int)] w (fun e w' => e = .returned (.int .i64 R) ∧ Below w.heap.size w w') := by
  have HF := Lib.hid hφ
  have hle : Hid (xs.length = n) := Lib.hid hS.out.len
  obtain ⟨A, hA⟩ : ∃ x, Hid (posI xs t i = x) := ⟨_, Lib.hid rfl⟩
  obtain ⟨L, hL⟩ : ∃ x, Hid (lenI xs t i = x) := ⟨_, Lib.hid rfl⟩
  obtain ⟨B, hB⟩ : ∃ x, Hid (posI xs t k = x) := ⟨_, Lib.hid rfl⟩
  obtain ⟨Q, hQ⟩ : ∃ x, Hid (lenI xs t k = x) := ⟨_, Lib.hid rfl⟩
  have b1 := hS.out.pos i
  have b2 := hS.out.len_ hi
  have b3 := hS.out.pos k
  have b4 := hS.out.len_ hk
  have hR2 : Hid (togV sm A L B Q = R) := Lib.hid (by rw [← hR.out, hS.out.both hi hk, hA.out, hL.out, hB.out, hQ.out])
  rw [hA.out] at b1
  rw [hL.out] at b2
  rw [hB.out] at b3
  rw [hQ.out] at b4
  have hs1 := hS.out.s1
  have hs0 := hS.out.s0
  have hn5 := hS.out.hi
  obtain ⟨y1, hy1⟩ : ∃ y, Hid ((xs.take i).sum = y) := ⟨_, Lib.hid rfl⟩
  obtain ⟨y2, hy2⟩ : ∃ y, Hid ((xs.take k).sum = y) := ⟨_, Lib.hid rfl⟩
  have m1 := hS.out.mul i
  have m2 := hS.out.mul k
  rw [hy1.out] at m1
  rw [hy2.out] at m2
  have hA3 : (t * y1).tmod sm = A := by rw [← hA.out, ← hy1.out, ← hS.out.sum]; rfl
  have hB3 : (t * y2).tmod sm = B := by rw [← hB.out, ← hy2.out, ← hS.out.sum]; rfl
  obtain ⟨b, off, rfl, f⟩ := s.intsD hle hi
  have HS := Lib.hid s
  obtain ⟨hb0, c1⟩ := f i hi w HF.out
  obtain ⟨_, c2⟩ := f k hk w HF.out
  have hL3 : t * xs.getD i 0 = L := hL.out
  have hQ3 : t * xs.getD k 0 = Q := hQ.out
  clear f
  generalize xs.getD i 0 = z1 at *
  generalize xs.getD k 0 = z2 at *
  have hbe : (sm == 0) = false := by simp; omega
  have hne : ¬ sm = 0 := by omega
  have v1 : IntKind.i64.wrap (t * y1) = t * y1 := IntWalk.i64_in _ (by omega)
  have v2 : IntKind.i64.wrap (t * y2) = t * y2 := IntWalk.i64_in _ (by omega)
  have v3 : IntKind.i64.wrap (t * z1) = L := by rw [hL3]; exact IntWalk.i64_in _ (by omega)
  have v4 : IntKind.i64.wrap (t * z2) = Q := by rw [hQ3]; exact IntWalk.i64_in _ (by omega)
  have v5 : IntKind.i64.wrap A = A := IntWalk.i64_in _ (by omega)
  have v6 : IntKind.i64.wrap B = B := IntWalk.i64_in _ (by omega)
  have v7 : IntKind.i64.wrap (-sm) = -sm := IntWalk.i64_in _ (by omega)
  have i1 : (0 : Int) ≤ (i : Int) := by omega
  have i2 : (i : Int) ≤ n := by omega
  have i3 : (i : Int) < n := by omega
  have i4 : (k : Int) ≤ n := by omega
  have i5 : (k : Int) < n := by omega
  have hcap : n ≤ c := by have := HS.out.capn; rw [hle.out] at this; exact this
  clear m1 m2 hL3 hQ3
  go_enter Tryz.func108, Tryz.ntmps108
  go_upto_region 2 with (go_at_call 90; (with_reducible refine (tot_all HF.out HS.out hS).mono ?_); rintro e w1 ⟨rfl, hw1⟩; obtain rfl := hw1.symm)
  go_quiet ((go_at_call 90; exact Calls.quiet_of_same (tot_pre (Fz.drewN HF.out _) HS.out hS (Nat.le_of_lt hi) hy1)))
  have HF2 : Hid (Fz φ (w.drewN nq) ∧ Below w.heap.size w (w.drewN nq)) := Lib.hid ⟨HF.out, bdrewN (Below.refl _ _) _⟩
  have c3 : (w.drewN nq).cell? ⟨b, off + k, none⟩ = some (.int .i64 z2) := c2
  clear c1 c2
  generalize w.drewN nq = w2 at *
  go_upto_region 3 with (fail)
  go_quiet ((go_at_call 90; exact Calls.quiet_of_same (tot_pre (Fz.drewN HF2.out.1 _) HS.out hS (Nat.le_of_lt hk) hy2)))
  have HF3 : Hid (Fz φ (w2.drewN nq) ∧ Below w.heap.size w (w2.drewN nq)) := Lib.hid ⟨HF2.out.1, bdrewN HF2.out.2 _⟩
  clear c3
  generalize w2.drewN nq = w3 at *
  obtain ⟨φ4, l4, i4', s4⟩ := SlV.lit (α := Int) HF3.out.1 3 (xs := [-sm, 0, sm]) (arr := #[.int .i64 (-sm), .int .i64 0, .int .i64 sm]) ⟨[.int .i64 (-sm)], [.int .i64 0, .int .i64 sm], rfl, rfl, [.int .i64 0], [.int .i64 sm], rfl, rfl, [.int .i64 sm], [], rfl, rfl, rfl⟩ (by simp [maxLen])
  have S4 := Lib.hid s4
  have HF4 := Lib.hid (And.intro i4'.fz (HF3.out.2.trans (i4'.bel.mono HF3.out.2.size)))
  obtain ⟨sh, hsh⟩ : ∃ sh, Hid (([-sm, 0, sm] : List Int) = sh) := ⟨_, Lib.hid rfl⟩
  have hshl : Hid (sh.length = 3) := Lib.hid (by rw [← hsh.out]; rfl)
  have hshm : Hid (∀ x ∈ sh, -sm ≤ x ∧ x ≤ sm) := Lib.hid (by rw [← hsh.out]; intro x hx; simp at hx; omega)
  have hR3 : Hid ((sh.map (shV A L B Q)).sum = R) := Lib.hid (by rw [← hsh.out, sh_sum, hR2.out])
  clear i4' s4 l4
  go_wp2
  have S4 : Hid (SlV φ4 (some ⟨w3.heap.size, 0, none⟩) 3 sh) := Lib.hid (by rw [← hsh.out]; exact S4.out)
  generalize w3.alloc (.cells #[.int .i64 (-sm), .int .i64 0, .int .i64 sm] 3) = w4 at *
  generalize w3.heap.size = bl at *
  have sVb : Hid (∀ x, -sm ≤ x → x ≤ sm → 0 ≤ shV A L B Q x ∧ shV A L B Q x ≤ 5000000000) := Lib.hid (fun x h1 h2 => by unfold shV; omega)
  go_loopw [14, 52] (fun o ix wr => ∃ (j : Nat) (v : Int), j ≤ 3 ∧ ix = .int .i64 j ∧ o = .int .i64 v ∧ Hid (((sh.take j).map (shV A L B Q)).sum = v) ∧ Hid (Fz φ4 wr ∧ Below w.heap.size w wr)) (fun _ ix _ => 3 - (intOf ix).toNat)
  case atStart => exact ⟨0, 0, Nat.zero_le _, rfl, rfl, Lib.hid rfl, HF4⟩
  case round =>
    obtain ⟨j, v, hj, rfl, rfl, hv, hI⟩ := hrel
    by_cases hlt : j < 3
    · obtain ⟨b5, o5, e5, f⟩ := S4.out.intsD hshl hlt
      obtain ⟨hb5, d1⟩ := f j hlt wr hI.out.1
      injection e5 with e5
      injection e5 with e5 e6
      subst e5 e6
      rw [Nat.zero_add] at d1
      have hst := Lib.hid (int_snoc hshl.out hlt (shV A L B Q))
      have hvb := sumF_bd (l := sh.take j) (f := shV A L B Q) (B := 5000000000) (fun x hx => by have := hshm.out x (List.mem_of_mem_take hx); exact sVb.out x this.1 this.2)
      rw [hv.out, List.length_take, hshl.out, show min j 3 = j by omega] at hvb
      have hvb2 : 0 ≤ v ∧ v ≤ 15000000000 := by omega
      have hxm := hshm.out (sh.getD j 0) (by rw [getD_elem0 _ _ _ (by rw [hshl.out]; exact hlt)]; exact List.getElem_mem _)
      rw [hv.out] at hst
      clear f hvb
      generalize sh.getD j 0 = x at *
      have hob := sVb.out x hxm.1 hxm.2
      have hoe : shV A L B Q x = max 0 (min (A + L) (B + x + Q) - max A (B + x)) := rfl
      rw [hoe] at hst hob
      have g1 : IntKind.i64.wrap (A + L) = A + L := IntWalk.i64_in _ (by omega)
      have g2 : IntKind.i64.wrap (B + x) = B + x := IntWalk.i64_in _ (by omega)
      have g3 : IntKind.i64.wrap (B + x + Q) = B + x + Q := IntWalk.i64_in _ (by omega)
      have g4 : IntKind.i64.wrap (min (A + L) (B + x + Q) - max A (B + x)) = min (A + L) (B + x + Q) - max A (B + x) := IntWalk.i64_in _ (by omega)
      have g5 : IntKind.i64.wrap (v + max 0 (min (A + L) (B + x + Q) - max A (B + x))) = v + max 0 (min (A + L) (B + x + Q) - max A (B + x)) := IntWalk.i64_in _ (by omega)
      clear hoe hob hvb2 b1 b2 b3 b4
      go_wp2
      go_roundw
      case rel => exact ⟨j + 1, v + max 0 (min (A + L) (B + x + Q) - max A (B + x)), by omega, by go_num, rfl, hst, hI⟩
      case measure => (simp [intOf] <;> omega)
    · obtain rfl : j = 3 := by omega
      have ex : sh.take 3 = sh := by rw [← hshl.out, List.take_length]
      rw [ex, hR3.out] at hv
      have HV := hv.out
      go_wp2
      go_ret
      exact ⟨ret_int HV.symm, hI.out.2⟩
set_option maxRecDepth 100000 in
set_option maxHeartbeats 1000000 in
theorem pair_any {M : Nat} (hM : Hid (MOk M)) {m n : Int} (h0 : 0 ≤ m) (h1 : m ≤ 5000) (h2 : 2 ≤ n) (h3 : n ≤ 5000) {w : World} {φ : Phi} (hφ : Fz φ w) (hp : PowP φ) {S T : ByteArray} (hr : Hid (shtT (((m * (m - 1) : Int) : Rat) / ((n * (n - 1) : Int) : Rat)) = (S, T))) :
    Calls Tryz.prog 102 #[.int .i64 m, .int .i64 n] w (fun e w' => e = .returned (.agg #[.string S, .string T]) ∧ Below w.heap.size w w') := by
  have hRS := Lib.hid (RsSt.start (Inv.start hφ) #[.string ⟨#[]⟩, .string ⟨#[]⟩] 33)
  have p1 : 0 ≤ m * (m - 1) ∧ m * (m - 1) ≤ 25000000 := by
    by_cases e : m = 0
    · subst e; simp
    · exact ⟨Int.mul_nonneg h0 (by omega), Int.le_trans (Int.mul_le_mul h1 (show m - 1 ≤ 5000 by omega) (by omega) (by decide)) (by decide)⟩
  have p2 : 0 < n * (n - 1) ∧ n * (n - 1) ≤ 25000000 := ⟨Int.mul_pos (by omega) (by omega), Int.le_trans (Int.mul_le_mul h3 (show n - 1 ≤ 5000 by omega) (by omega) (by decide)) (by decide)⟩
  have w1 : IntKind.i64.wrap (m - 1) = m - 1 := IntWalk.i64_in _ (by omega)
  have w2 : IntKind.i64.wrap (n - 1) = n - 1 := IntWalk.i64_in _ (by omega)
  have w3 : IntKind.i64.wrap (m * (m - 1)) = m * (m - 1) := IntWalk.i64_in _ (by omega)
  have w4 : IntKind.i64.wrap (n * (n - 1)) = n * (n - 1) := IntWalk.i64_in _ (by omega)
  have HP := Lib.hid hp
  clear hφ hp
  go_enter Tryz.func102, Tryz.ntmps102
  go_wp2_with (go_at_call 53; (with_reducible refine (frac_q hM p1.1 (by omega) p2.1 (by omega) hRS.out.inv.fz HP.out hr).mono ?_); rintro e w5 ⟨rfl, hb5⟩; have H5 := Lib.hid (hRS.out.callB hb5); clear hb5; have r0 : w5.cell? ⟨w.heap.size, 0, none⟩ = some (.string ⟨#[]⟩) := H5.out.k.cell 0; have r1 : w5.cell? ⟨w.heap.size, 1, none⟩ = some (.string ⟨#[]⟩) := H5.out.k.cell 1; have r2 := H5.out.k.frz 0; have r3 := H5.out.k.frz 1)
  have hZ := Lib.hid ((H5.out.set 0 (.string S)).set 1 (.string T))
  have e0 : _ = some (Value.string S) := hZ.out.k.cell 0
  have e1 : _ = some (Value.string T) := hZ.out.k.cell 1
  (try simp only [Exit.inBlock, Exit.then])
  refine bodyPost_ret (v := .agg #[.string S, .string T]) (by simp [results, Tryz.results102, go_sem, e0, e1]) rfl ?_
  exact ⟨rfl, hZ.out.inv.bel⟩
end Go.Proofs.YtnlhalnjbkpdnaaGreatDoor

namespace Go.Proofs.YtnlhalnjbkpdnaaGreatDoor
open Go.RowKit Go.Sort
set_option linter.unusedVariables false
set_option linter.unusedSimpArgs false
theorem SyOk.bd {xs : List Int} {n : Nat} {t sm : Int} (h : SyOk xs n t sm) {i k : Nat} (hi : i < n) (hk : k < n) : 0 ≤ bthI xs t i k ∧ bthI xs t i k ≤ 15000000000 := by
  rw [h.both hi hk]
  have p1 := h.pos i
  have p2 := h.pos k
  have l1 := h.len_ hi
  have l2 := h.len_ hk
  have s1 := h.s1
  rw [← sh_sum]
  have := sumF_bd (l := ([-sm, 0, sm] : List Int)) (f := shV (posI xs t i) (lenI xs t i) (posI xs t k) (lenI xs t k)) (B := 5000000000) (fun x hx => by simp at hx; unfold shV; omega)
  simp only [List.length_cons, List.length_nil] at this
  omega
theorem sy_ok {kind : Int} {t : Tak} {us : List Unt} {n : Nat} (hk : kind ≠ 1) (ht : TkOk kind t us) (hn : us.length = n) (h0 : 0 < n) (hl : n ≤ 5000) (hok : ∀ u ∈ us, 1 ≤ u.2.2.2 ∧ u.2.2.2 ≤ 1000000) : SyOk (elmL kind us) (elmL kind us).length t.2.1 (szU us) := by
  obtain ⟨h1, h2, h3⟩ := elm_facts (kind := kind) hn hl hok
  have hsz := szU_bd hok
  have hhi := ht.hi
  refine ⟨rfl, by omega, ht.lo, by omega, h2, elm_sum kind us, by omega, by omega, fun x hx => Int.le_trans ?_ (ht.big hk)⟩
  exact Int.mul_le_mul_of_nonneg_left (le_mxL hx) ht.lo
/-- A result's cell, and perhaps one more cell for a ratio. -/
structure J9 (w0 : World) (φ0 : Phi) (br : Nat) (cs : Array Value) (ψ : Phi) (o : Option Nat) (W : World) : Prop where
  r : RsSt w0 φ0 ψ br #[.string ⟨#[]⟩, .string ⟨#[]⟩] 33 W
  o : ∀ x, o = some x → RsSt w0 φ0 ψ x cs 33 W ∧ x ≠ br
section
variable {w0 W w' : World} {φ0 ψ ψ' : Phi} {br : Nat} {cs : Array Value} {o : Option Nat}
theorem J9.call (h : J9 w0 φ0 br cs ψ o W) (hi : Inv W.heap.size W ψ ψ' w') : J9 w0 φ0 br cs ψ' o w' := ⟨h.r.call hi, fun x hx => ⟨(h.o x hx).1.call hi, (h.o x hx).2⟩⟩
theorem J9.callB (h : J9 w0 φ0 br cs ψ o W) (hb : Below W.heap.size W w') : J9 w0 φ0 br cs ψ o w' := ⟨h.r.callB hb, fun x hx => ⟨(h.o x hx).1.callB hb, (h.o x hx).2⟩⟩
theorem J9.al (h : Hid (J9 w0 φ0 br #[.string ⟨#[]⟩, .string ⟨#[]⟩] ψ none W)) : Hid (J9 w0 φ0 br #[.string ⟨#[]⟩, .string ⟨#[]⟩] ψ (some W.heap.size) (W.alloc (.cells #[.string ⟨#[]⟩, .string ⟨#[]⟩] 33))) :=
  Lib.hid ⟨h.out.r.callB ((Below.refl _ _).alloc (Nat.le_refl _) _), fun x hx => by
    cases hx
    exact ⟨RsSt.start h.out.r.inv _ _, by have := h.out.r.k.lt; omega⟩⟩
theorem J9.alD (h : Hid (J9 w0 φ0 br #[.string ⟨#[]⟩, .string ⟨#[]⟩] ψ none W)) : Hid (J9 w0 φ0 br #[.string ⟨#[]⟩, .string ⟨#[]⟩] ψ (some W.heap.size) (W.alloc (.cells #[.string ⟨#[]⟩, .string ⟨#[]⟩] 33)).drew) := Lib.hid ((J9.al h).out.callB (bdrewN (Below.refl _ _) 1))
theorem J9.facts {x : Nat} (h : Hid (J9 w0 φ0 br #[.string ⟨#[]⟩, .string ⟨#[]⟩] ψ (some x) W)) : W.cell? ⟨x, 0, none⟩ = some (.string ⟨#[]⟩) ∧ W.cell? ⟨x, 1, none⟩ = some (.string ⟨#[]⟩) ∧ W.frozen? ⟨x, 0, none⟩ = false ∧ W.frozen? ⟨x, 1, none⟩ = false := by
  have k := (h.out.o x rfl).1.k
  exact ⟨k.cell 0, k.cell 1, k.frz 0, k.frz 1⟩
theorem J9.put {x : Nat} {u0 u1 : Value} (h : Hid (J9 w0 φ0 br #[u0, u1] ψ (some x) W)) (u v : Value) : J9 w0 φ0 br #[u, v] ψ (some x) ((W.setCell ⟨x, 0, none⟩ u).setCell ⟨x, 1, none⟩ v) := by
  obtain ⟨k, hne⟩ := h.out.o x rfl
  exact ⟨(h.out.r.oth k hne 0 u).oth (k.set 0 u) hne 1 v, fun y hy => by cases hy; exact ⟨(k.set 0 u).set 1 v, hne⟩⟩
theorem J9.putNew {cs : Array Value} (h : Hid (J9 w0 φ0 br cs ψ none W)) (u v : Value) : J9 w0 φ0 br #[u, v] ψ (some W.heap.size) (W.alloc (.cells #[u, v] 33)) :=
  ⟨h.out.r.callB ((Below.refl _ _).alloc (Nat.le_refl _) _), fun x hx => by
    cases hx
    exact ⟨RsSt.start h.out.r.inv _ _, by have := h.out.r.k.lt; omega⟩⟩
theorem J9.fin (h : Hid (J9 w0 φ0 br cs ψ o W)) (u v : Value) : RsSt w0 φ0 ψ br #[u, v] 33 ((W.setCell ⟨br, 0, none⟩ u).setCell ⟨br, 1, none⟩ v) := (h.out.r.set 0 u).set 1 v
theorem J9.rf (h : Hid (J9 w0 φ0 br cs ψ o W)) : W.cell? ⟨br, 0, none⟩ = some (.string ⟨#[]⟩) ∧ W.cell? ⟨br, 1, none⟩ = some (.string ⟨#[]⟩) ∧ W.frozen? ⟨br, 0, none⟩ = false ∧ W.frozen? ⟨br, 1, none⟩ = false := ⟨h.out.r.k.cell 0, h.out.r.k.cell 1, h.out.r.k.frz 0, h.out.r.k.frz 1⟩
end
section
variable {M : Nat} {w0 W : World} {φ0 φ2 ψ : Phi} {br : Nat} {cs : Array Value} {o : Option Nat}
theorem frac_J (hM : Hid (MOk M)) (h : Hid (J9 w0 φ0 br cs ψ o W)) (hl : Hid (φ2.le ψ)) (hp : Hid (PowP φ2)) {a b : Int} (h0 : 0 ≤ a ∧ a ≤ 100000000000000 ∧ 0 < b ∧ b ≤ 100000000000000) {S T : ByteArray} (hr : Hid (shtT ((a : Rat) / (b : Rat)) = (S, T))) :
    Calls Tryz.prog 53 #[.int .i64 a, .int .i64 b] W (fun e w' => e = .returned (.agg #[.string S, .string T]) ∧ Hid (J9 w0 φ0 br cs ψ o w')) :=
  (frac_q hM h0.1 h0.2.1 h0.2.2.1 h0.2.2.2 h.out.r.inv.fz (hp.out.mono hl.out) hr).mono fun e w' q => ⟨q.1, Lib.hid (h.out.callB q.2)⟩
theorem pair_J (hM : Hid (MOk M)) (h : Hid (J9 w0 φ0 br cs ψ o W)) (hl : Hid (φ2.le ψ)) (hp : Hid (PowP φ2)) {m n : Int} (h0 : 0 ≤ m ∧ m ≤ 5000 ∧ 2 ≤ n ∧ n ≤ 5000) {S T : ByteArray} (hr : Hid (shtT (((m * (m - 1) : Int) : Rat) / ((n * (n - 1) : Int) : Rat)) = (S, T))) :
    Calls Tryz.prog 102 #[.int .i64 m, .int .i64 n] W (fun e w' => e = .returned (.agg #[.string S, .string T]) ∧ Hid (J9 w0 φ0 br cs ψ o w')) :=
  (pair_any hM h0.1 h0.2.1 h0.2.2.1 h0.2.2.2 h.out.r.inv.fz (hp.out.mono hl.out) hr).mono fun e w' q => ⟨q.1, Lib.hid (h.out.callB q.2)⟩
theorem times_J (hM : Hid (MOk M)) (h : Hid (J9 w0 φ0 br cs ψ o W)) (hl : Hid (φ2.le ψ)) (hp : Hid (PowP φ2)) {x y : Rat} (qx : Hid (QuF x)) (qy : Hid (QuF y)) (qz : Hid (QuF (x * y))) {s1 t1 s2 t2 S T : ByteArray} (h1 : Hid (shtT x = (s1, t1))) (h2 : Hid (shtT y = (s2, t2))) (h3 : Hid (shtT (x * y) = (S, T))) :
    Calls Tryz.prog 42 #[.agg #[.string s1, .string t1], .agg #[.string s2, .string t2]] W (fun e w' => e = .returned (.agg #[.string S, .string T]) ∧ Hid (J9 w0 φ0 br cs ψ o w')) :=
  (times_q hM qx qy qz h1 h2 h3 h.out.r.inv.fz (hp.out.mono hl.out)).mono fun e w' q => ⟨q.1, Lib.hid (h.out.callB q.2)⟩
theorem sizes_J (h : Hid (J9 w0 φ0 br cs ψ o W)) (hl : Hid (φ2.le ψ)) {a : Option Addr} {c n : Nat} {us : List Unt} (sU : Hid (SlV φ2 a c us)) (hn : Hid (us.length = n)) (hln : n ≤ 5000) {zs : List Int} (hz : Hid (szL us = zs)) (hzl : Hid (zs.length = n)) :
    Calls Tryz.prog 106 #[.slice a n c] W (fun e w' => ∃ a4 c4 ψ', e = .returned (.slice a4 n c4) ∧ Hid (J9 w0 φ0 br cs ψ' o w') ∧ Hid (φ2.le ψ') ∧ Hid (SlV ψ' a4 c4 zs)) :=
  (PsizesOf_any h.out.r.inv.fz (sU.out.mono hl.out) hn hln).mono fun e w' q => by
    obtain ⟨a4, c4, ψ', rfl, hi, s4⟩ := q
    rw [hz.out] at s4 ⊢
    rw [hzl.out]
    exact ⟨a4, c4, ψ', rfl, Lib.hid (h.out.call hi), Lib.hid (hl.out.trans hi.le), Lib.hid s4⟩
theorem csizes_J (h : Hid (J9 w0 φ0 br cs ψ o W)) (hl : Hid (φ2.le ψ)) {nm : ByteArray} {aU aC : Option Addr} {n cU nC cC : Nat} {S : Int} {cl : List Clu} (sC : Hid (SlV φ2 aC cC cl)) (hn : Hid (cl.length = nC)) (hln : nC ≤ 5000) {zs : List Int} (hz : Hid (cl.map (fun x => x.2.1) = zs)) (hzl : Hid (zs.length = nC)) :
    Calls Tryz.prog 107 #[.agg #[.string nm, .slice aU n cU, .int .i64 S, .slice aC nC cC]] W (fun e w' => ∃ a4 c4 ψ', e = .returned (.slice a4 nC c4) ∧ Hid (J9 w0 φ0 br cs ψ' o w') ∧ Hid (φ2.le ψ') ∧ Hid (SlV ψ' a4 c4 zs)) :=
  (PclusterSizes_any h.out.r.inv.fz (sC.out.mono hl.out) hn hln).mono fun e w' q => by
    obtain ⟨a4, c4, ψ', rfl, hi, s4⟩ := q
    rw [hz.out] at s4 ⊢
    rw [hzl.out]
    exact ⟨a4, c4, ψ', rfl, Lib.hid (h.out.call hi), Lib.hid (hl.out.trans hi.le), Lib.hid s4⟩
theorem both_J (h : Hid (J9 w0 φ0 br cs ψ o W)) {a : Option Addr} {c n : Nat} {xs : List Int} {t sm : Int} {i k : Nat} (s : Hid (SlV ψ a c xs)) (hS : Hid (SyOk xs n t sm)) (hi : i < n) (hk : k < n) {R : Int} (hR : Hid (bthI xs t i k = R)) :
    Calls Tryz.prog 105 #[.slice a n c, .int .i64 t, .int .i64 (i : Int), .int .i64 (k : Int)] W (fun e w' => e = .returned (.int .i64 R) ∧ Hid (J9 w0 φ0 br cs ψ o w')) :=
  (both_any h.out.r.inv.fz s.out hS hi hk hR).mono fun e w' q => ⟨q.1, Lib.hid (h.out.callB q.2)⟩
theorem cluster_J (h : Hid (J9 w0 φ0 br cs ψ o W)) (hl : Hid (φ2.le ψ)) {nm : ByteArray} {aU aC : Option Addr} {nU cU nC cC : Nat} {S : Int} {cl : List Clu} (sC : Hid (SlV φ2 aC cC cl)) (hn : Hid (cl.length = nC)) {u1 : Int} {u2 : ByteArray} {u3 u4 : Int} {v : Int} (hv : Hid (Fnd (fun i => (cl.getD i clu0).1 = u3) nC v)) :
    Calls Tryz.prog 87 #[.agg #[.string nm, .slice aU nU cU, .int .i64 S, .slice aC nC cC], .agg #[.int .i64 u1, .string u2, .int .i64 u3, .int .i64 u4]] W (fun e w' => e = .returned (.int .i64 v) ∧ Hid (J9 w0 φ0 br cs ψ o w')) :=
  (cluster_any h.out.r.inv.fz (sC.out.mono hl.out) hn hv).mono fun e w' q => ⟨q.1, Lib.hid (h.out.callB q.2)⟩
end
set_option maxHeartbeats 1000000 in
theorem at_any {w : World} {φ : Phi} (hφ : Fz φ w) {bx : Nat} {nm : ByteArray} {aU aC : Option Addr} {n cU nC cC : Nat} {S : Int} (hb : φ bx = some (.cells #[.string nm, .slice aU n cU, .int .i64 S, .slice aC nC cC] 137)) {us : List Unt} (sU : SlV φ aU cU us) (hn : Hid (us.length = n)) {u1 : Int} {u2 : ByteArray} {u3 u4 : Int} {v : Int} (hv : Hid (Fnd (fun i => (us.getD i unt0).1 = u1) n v)) :
    Calls Tryz.prog 103 #[.agg #[.int .i64 u1, .string u2, .int .i64 u3, .int .i64 u4], .pointer (some ⟨bx, 0, none⟩)] w (fun e w' => e = .returned (.int .i64 v) ∧ Below w.heap.size w w') := by
  obtain ⟨φ1, le1, i1, k1⟩ := (Inv.start hφ).frz (.cells #[.int .i64 u1, .string u2, .int .i64 u3, .int .i64 u4] 64)
  have C := Lib.hid (IdxU_any i1.fz k1 n aU cU us (sU.mono le1) hn hv)
  have HB := Lib.hid i1.bel
  have y2 : (w.alloc (.cells #[.int .i64 u1, .string u2, .int .i64 u3, .int .i64 u4] 64)).cell? ⟨bx, 1, none⟩ = some (.slice aU n cU) := (i1.fz.blk (le1 _ _ hb)).cell 1
  clear i1 k1 le1
  go_enter Tryz.func103, Tryz.ntmps103
  go_wp2_with fail
  refine C.out.mono ?_
  rintro e w2 ⟨rfl, hb2⟩
  go_wp2
  go_ret
  exact ⟨rfl, HB.out.trans (hb2.mono HB.out.size)⟩
theorem at_J {w0 W : World} {φ0 φ2 ψ : Phi} {br : Nat} {cs : Array Value} {o : Option Nat} (h : Hid (J9 w0 φ0 br cs ψ o W)) (hl : Hid (φ2.le ψ)) {bx : Nat} {nm : ByteArray} {aU aC : Option Addr} {n cU nC cC : Nat} {S : Int} (hb : Hid (φ2 bx = some (.cells #[.string nm, .slice aU n cU, .int .i64 S, .slice aC nC cC] 137))) {us : List Unt} (sU : Hid (SlV φ2 aU cU us)) (hn : Hid (us.length = n)) {u1 : Int} {u2 : ByteArray} {u3 u4 : Int} {v : Int} (hv : Hid (Fnd (fun i => (us.getD i unt0).1 = u1) n v)) :
    Calls Tryz.prog 103 #[.agg #[.int .i64 u1, .string u2, .int .i64 u3, .int .i64 u4], .pointer (some ⟨bx, 0, none⟩)] W (fun e w' => e = .returned (.int .i64 v) ∧ Hid (J9 w0 φ0 br cs ψ o w')) :=
  (at_any h.out.r.inv.fz (hl.out _ _ hb.out) (sU.out.mono hl.out) hn hv).mono fun e w' q => ⟨q.1, Lib.hid (h.out.callB q.2)⟩
end Go.Proofs.YtnlhalnjbkpdnaaGreatDoor
