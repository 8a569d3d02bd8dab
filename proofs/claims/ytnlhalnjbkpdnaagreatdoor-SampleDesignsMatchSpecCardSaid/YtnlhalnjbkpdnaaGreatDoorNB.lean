/- A digit of a quotient, by a guess from the highest limbs: the plain law; the walk of tooMuch. divideStep: the plain law of its three loops. Conditions: none beyond what the claim form gives. -/
import Derived.Test.YtnlhalnjbkpdnaaGreatDoorNA
namespace Go.Proofs.YtnlhalnjbkpdnaaGreatDoor
open Go.RowKit
set_option linter.unusedVariables false
set_option linter.unusedSimpArgs false
/-- A dividend of k + 3 limbs and a divisor of k + 2, by their highest limbs. -/
structure Dig (k U v top v1 v2 nx : Nat) : Prop where
  lowU : ∃ r, r < lb ^ k ∧ U = r + lb ^ k * (top * lb + nx)
  lowv : ∃ r, r < lb ^ k ∧ v = r + lb ^ k * (v1 * lb + v2)
  v1p : 0 < v1
  nxl : nx < lb
  v2l : v2 < lb
  lt : U < v * lb
section
variable {k U v top v1 v2 nx g : Nat}
theorem Dig.vpos (h : Dig k U v top v1 v2 nx) : 0 < v := by
  obtain ⟨r, _, hr⟩ := h.lowv
  have h1 : 0 < lb ^ k := Nat.pow_pos lb_pos
  have h2 : 0 < v1 * lb := Nat.mul_pos h.v1p lb_pos
  have h3 : 0 < lb ^ k * (v1 * lb + v2) := Nat.mul_pos h1 (by omega)
  omega
theorem Dig.q_lt (h : Dig k U v top v1 v2 nx) : U / v < lb := (Nat.div_lt_iff_lt_mul h.vpos).2 (by rw [Nat.mul_comm]; exact h.lt)
/-- The quotient's digit, against the three highest limbs. -/
theorem Dig.q_le (h : Dig k U v top v1 v2 nx) : U / v * (v1 * lb + v2) ≤ top * lb + nx := by
  obtain ⟨r, hr, eU⟩ := h.lowU
  obtain ⟨s, hs, ev⟩ := h.lowv
  have h1 := Nat.div_mul_le_self U v
  have h2 : U / v * (lb ^ k * (v1 * lb + v2)) ≤ U / v * v := Nat.mul_le_mul_left _ (by omega)
  have h3 : lb ^ k * (U / v * (v1 * lb + v2)) < lb ^ k * (top * lb + nx + 1) := by
    rw [Nat.mul_left_comm (lb ^ k) (U / v), Nat.mul_succ]
    omega
  have := Nat.lt_of_mul_lt_mul_left h3
  omega
theorem Dig.q_top (h : Dig k U v top v1 v2 nx) : U / v * v1 ≤ top := by
  have h1 := h.q_le
  have h2 : U / v * v1 * lb ≤ U / v * (v1 * lb + v2) := by rw [Nat.mul_assoc]; exact Nat.mul_le_mul_left _ (by omega)
  have h3 : U / v * v1 * lb < (top + 1) * lb := by have := h.nxl; rw [Nat.add_mul, Nat.one_mul]; omega
  have := Nat.lt_of_mul_lt_mul_right h3
  omega
theorem Dig.start (h : Dig k U v top v1 v2 nx) : U / v ≤ min (top / v1) (lb - 1) ∧ min (top / v1) (lb - 1) * v1 ≤ top := by
  have h1 := h.q_top
  have h2 := h.q_lt
  have h3 := (Nat.le_div_iff_mul_le h.v1p).2 h1
  refine ⟨by omega, ?_⟩
  have h4 : min (top / v1) (lb - 1) * v1 ≤ top / v1 * v1 := Nat.mul_le_mul_right _ (Nat.min_le_left _ _)
  exact Nat.le_trans h4 (Nat.div_mul_le_self _ _)
def tmB (top g v1 v2 nx : Nat) : Bool := decide (top - g * v1 < lb ∧ (top - g * v1) * lb + nx < g * v2)
theorem Dig.next (h : Dig k U v top v1 v2 nx) (hg : g * v1 ≤ top) (hq : U / v ≤ g) (ht : tmB top g v1 v2 nx = true) : U / v ≤ g - 1 ∧ (g - 1) * v1 ≤ top := by
  have h1 := (of_decide_eq_true ht).2
  have h2 := h.q_le
  have h3 : top * lb + nx < g * (v1 * lb + v2) := by
    have e : (top - g * v1) * lb = top * lb - g * v1 * lb := Nat.sub_mul _ _ _
    have e2 : g * v1 * lb ≤ top * lb := Nat.mul_le_mul_right _ hg
    have e3 : g * (v1 * lb + v2) = g * v1 * lb + g * v2 := by rw [Nat.mul_add, Nat.mul_assoc]
    rw [e3]
    rw [e] at h1
    clear e e3
    generalize g * v1 * lb = G at *
    generalize top * lb = T at *
    generalize g * v2 = G2 at *
    omega
  have h4 : U / v < g := by
    rcases Nat.lt_or_ge (U / v) g with q | q
    · exact q
    · have : g * (v1 * lb + v2) ≤ U / v * (v1 * lb + v2) := Nat.mul_le_mul_right _ q
      omega
  refine ⟨by omega, Nat.le_trans (Nat.mul_le_mul_right _ (by omega)) hg⟩
theorem Dig.stop (h : Dig k U v top v1 v2 nx) (hg : g * v1 ≤ top) (hl : g < lb) (ht : g = 0 ∨ tmB top g v1 v2 nx = false) : g ≤ U / v + 1 := by
  rcases ht with rfl | ht
  · exact Nat.zero_le _
  have h1 : g * v2 ≤ (top - g * v1) * lb + nx := by
    have h2 := of_decide_eq_false ht
    rcases Nat.lt_or_ge (top - g * v1) lb with q | q
    · rcases Nat.lt_or_ge ((top - g * v1) * lb + nx) (g * v2) with q2 | q2
      · exact absurd ⟨q, q2⟩ h2
      · exact q2
    · have h3 : g * v2 ≤ lb * lb := Nat.mul_le_mul (by omega) (by have := h.v2l; omega)
      have h4 : lb * lb ≤ (top - g * v1) * lb := Nat.mul_le_mul_right _ q
      omega
  have h2 : g * (v1 * lb + v2) ≤ top * lb + nx := by
    have e : (top - g * v1) * lb = top * lb - g * v1 * lb := Nat.sub_mul _ _ _
    have e2 : g * v1 * lb ≤ top * lb := Nat.mul_le_mul_right _ hg
    have e3 : g * (v1 * lb + v2) = g * v1 * lb + g * v2 := by rw [Nat.mul_add, Nat.mul_assoc]
    rw [e3]
    rw [e] at h1
    clear e e3
    generalize g * v1 * lb = G at *
    generalize top * lb = T at *
    generalize g * v2 = G2 at *
    omega
  rcases Nat.lt_or_ge (U / v + 1) g with q | q
  · exfalso
    obtain ⟨r, hr, eU⟩ := h.lowU
    obtain ⟨s, hs, ev⟩ := h.lowv
    have hP : 0 < lb ^ k := Nat.pow_pos lb_pos
    have h3 : U < (g - 1) * v := by
      have := Nat.lt_div_mul_add h.vpos (a := U)
      have h4 : (U / v + 1) * v ≤ (g - 1) * v := Nat.mul_le_mul_right _ (by omega)
      rw [Nat.add_mul, Nat.one_mul] at h4
      omega
    have h4 : v ≤ lb ^ k * (v1 * lb + v2 + 1) := by rw [Nat.mul_succ]; omega
    have h5 : (g - 1) * v ≤ (g - 1) * (lb ^ k * (v1 * lb + v2 + 1)) := Nat.mul_le_mul_left _ h4
    have h6 : lb ^ k * (g * (v1 * lb + v2)) ≤ lb ^ k * (top * lb + nx) := Nat.mul_le_mul_left _ h2
    have h7 : lb ^ k * (g * (v1 * lb + v2)) < lb ^ k * ((g - 1) * (v1 * lb + v2 + 1)) := by
      rw [Nat.mul_left_comm (lb ^ k) (g - 1)]
      omega
    have h8 := Nat.lt_of_mul_lt_mul_left h7
    obtain ⟨g', rfl⟩ : ∃ g', g = g' + 1 := ⟨g - 1, by have : 0 < g := Nat.lt_of_le_of_lt (Nat.zero_le _) q; clear h3 h4 h5 h6 h7 h8 q h2 h1; omega⟩
    rw [Nat.add_sub_cancel, Nat.succ_mul, Nat.mul_succ] at h8
    have h9 : lb ≤ v1 * lb := Nat.le_mul_of_pos_left _ h.v1p
    omega
  · exact q
end
set_option maxHeartbeats 1000000 in
theorem tooMuch_any {top g v1 v2 nx n : Nat} {b : Option Addr} {cb : Nat} {V : List Nat} {w : World} {φ : Phi} (hφ : Fz φ w) (sv : SlV φ b cb V) (hn : Hid (V.length = n)) (hn2 : 2 ≤ n) (hn4 : n ≤ 4000000000) (h1 : Hid (V.getD (n - 1) 0 = v1)) (h2 : Hid (V.getD (n - 2) 0 = v2)) (hv1 : v1 < 1000000000) (hv2 : v2 < 1000000000) (hg : g < 1000000000) (ht : top < 1000000000000000000) (hnx : nx < 1000000000) (hgt : g * v1 ≤ top) {q : Bool} (hq : Hid (tmB top g v1 v2 nx = q)) :
    Calls Tryz.prog 293 #[.int .u64 (top : Int), .int .u64 (g : Int), .slice b n cb, .int .u64 (nx : Int)] w (fun e w' => e = .returned (.bool q) ∧ w = w') := by
  obtain ⟨bb, ob, rfl, f⟩ := sv.natD hn (k := 0) (by omega)
  have d1 := (f (n - 1) (by omega) w hφ).2
  have d2 := (f (n - 2) (by omega) w hφ).2
  rw [h1.out] at d1
  rw [h2.out] at d2
  obtain ⟨p, hp⟩ : ∃ p, p = g * v1 := ⟨_, rfl⟩
  obtain ⟨p2, hp2⟩ : ∃ p, p = g * v2 := ⟨_, rfl⟩
  have hpi : (g : Int) * (v1 : Int) = (p : Int) := by rw [hp]; exact (Int.natCast_mul g v1).symm
  have hp2i : (g : Int) * (v2 : Int) = (p2 : Int) := by rw [hp2]; exact (Int.natCast_mul g v2).symm
  have hpl : p ≤ top := by rw [hp]; exact hgt
  have hp2l : p2 ≤ 999999999 * 999999999 := by rw [hp2]; exact Nat.mul_le_mul (by omega) (by omega)
  have hqq : Hid (decide (top - p < 1000000000 ∧ (top - p) * 1000000000 + nx < p2) = q) := Lib.hid (by rw [← hq.out, tmB, hp, hp2]; rfl)
  have hto1 : ((n : Int) - 1).toNat = n - 1 := by omega
  have hto2 : ((n : Int) - 2).toNat = n - 2 := by omega
  have hx1 : (0 : Int) ≤ (n : Int) - 1 := by omega
  have hx2 : (0 : Int) ≤ (n : Int) - 2 := by omega
  have hx3 : (n : Int) - 1 < n := by omega
  have hx4 : (n : Int) - 2 < n := by omega
  clear hp hp2 f
  by_cases hr : top - p < 1000000000
  · have hri : (top : Int) - (p : Int) < 1000000000 := by omega
    go_enter Tryz.func293, Tryz.ntmps293
    go_wp2
    go_ret
    exact ⟨ret_bool (by rw [← hqq.out, Bool.eq_iff_iff]; simp; omega), rfl⟩
  · have hri : ¬ (top : Int) - (p : Int) < 1000000000 := by omega
    go_enter Tryz.func293, Tryz.ntmps293
    go_wp2
    go_ret
    exact ⟨ret_bool (by rw [← hqq.out, Bool.eq_iff_iff]; simp; omega), rfl⟩
end Go.Proofs.YtnlhalnjbkpdnaaGreatDoor

namespace Go.Proofs.YtnlhalnjbkpdnaaGreatDoor
open Go.RowKit
set_option linter.unusedVariables false
set_option linter.unusedSimpArgs false
theorem drop_getD (us : List Nat) (j i : Nat) : (us.drop j).getD i 0 = us.getD (j + i) 0 := by
  rw [List.getD_eq_getElem?_getD, List.getElem?_drop, ← List.getD_eq_getElem?_getD]
theorem LV_win (us : List Nat) (j i : Nat) : LV ((us.drop j).take (i + 1)) = LV ((us.drop j).take i) + lb ^ i * us.getD (j + i) 0 := by
  rw [LV_take, drop_getD]
theorem take_win_set (us : List Nat) (j i q : Nat) : ((us.set (j + i) q).drop j).take i = (us.drop j).take i := by
  rw [List.drop_set, if_neg (by omega), Nat.add_sub_cancel_left, List.take_set_of_le (Nat.le_refl _)]
theorem getD_set_eq (us : List Nat) (k q : Nat) (h : k < us.length) : (us.set k q).getD k 0 = q := by
  rw [List.getD_eq_getElem?_getD, List.getElem?_set_self h]; rfl
theorem getD_set_ne (us : List Nat) {k p : Nat} (q : Nat) (h : k ≠ p) : (us.set k q).getD p 0 = us.getD p 0 := by
  rw [List.getD_eq_getElem?_getD, List.getElem?_set_ne h, ← List.getD_eq_getElem?_getD]
/-- The limbs of a window that a digit's step may change, and those outside. -/
structure WinO (us us' : List Nat) (j n : Nat) : Prop where
  len : us'.length = us.length
  lim : Lim us'
  lo : us'.take j = us.take j
  hi : us'.drop (j + n + 1) = us.drop (j + n + 1)
theorem WinO.refl {us : List Nat} (h : Lim us) (j n : Nat) : WinO us us j n := ⟨rfl, h, rfl, rfl⟩
theorem WinO.set {us us' : List Nat} {j n i q : Nat} (h : WinO us us' j n) (hi : i ≤ n) (hq : q < lb) : WinO us (us'.set (j + i) q) j n :=
  ⟨by rw [List.length_set]; exact h.len, h.lim.set hq, by rw [List.take_set_of_le (by omega)]; exact h.lo, by rw [List.drop_set_of_lt (by omega)]; exact h.hi⟩
/-- The second loop: i limbs of the window have lost g times v. -/
structure SubI (us us' V : List Nat) (j n g i c : Nat) : Prop where
  win : WinO us us' j n
  eq : LV ((us'.drop j).take i) + g * LV (V.take i) = LV ((us.drop j).take i) + c * lb ^ i
  same : ∀ p, i ≤ p → us'.getD (j + p) 0 = us.getD (j + p) 0
theorem SubI.start {us : List Nat} (h : Lim us) (V : List Nat) (j n g : Nat) : SubI us us V j n g 0 0 := ⟨WinO.refl h j n, by simp [LV], fun _ _ => rfl⟩
/-- One limb of the second loop. -/
theorem SubI.next {us us' V : List Nat} {j n g i c u s e q : Nat} (h : SubI us us' V j n g i c) (hj : j + n + 1 ≤ us.length) (hi : i ≤ n) (hu : us'.getD (j + i) 0 = u) (hs : s = c + g * V.getD i 0) (hq : q + s = u + (s / lb + e) * lb) (hq9 : q < lb) : SubI us (us'.set (j + i) q) V j n g (i + 1) (s / lb + e) := by
  refine ⟨h.win.set hi hq9, ?_, fun p hp => ?_⟩
  · rw [LV_win, take_win_set, getD_set_eq _ _ _ (by rw [h.win.len]; omega), LV_take V i, LV_win, ← h.same i (Nat.le_refl _), hu, Nat.pow_succ]
    have h1 := h.eq
    have h2 : lb ^ i * (q + s) = lb ^ i * (u + (s / lb + e) * lb) := by rw [hq]
    generalize LV ((us'.drop j).take i) = A at *
    generalize LV (V.take i) = B at *
    generalize LV ((us.drop j).take i) = C at *
    generalize V.getD i 0 = y at *
    generalize s / lb + e = c2 at *
    subst hs
    grind
  · rw [getD_set_ne _ _ (by omega)]; exact h.same p (by omega)
/-- The third loop: i limbs of the window have got v again. -/
structure AddI (us us' V : List Nat) (j n i c : Nat) : Prop where
  win : WinO us us' j n
  eq : LV ((us'.drop j).take i) + c * lb ^ i = LV ((us.drop j).take i) + LV (V.take i)
  same : ∀ p, i ≤ p → us'.getD (j + p) 0 = us.getD (j + p) 0
theorem AddI.start {us : List Nat} (h : Lim us) (V : List Nat) (j n : Nat) : AddI us us V j n 0 0 := ⟨WinO.refl h j n, by simp [LV], fun _ _ => rfl⟩
theorem AddI.next {us us' V : List Nat} {j n i c u s : Nat} (h : AddI us us' V j n i c) (hj : j + n + 1 ≤ us.length) (hi : i ≤ n) (hu : us'.getD (j + i) 0 = u) (hs : s = u + c + V.getD i 0) : AddI us (us'.set (j + i) (s % lb)) V j n (i + 1) (s / lb) := by
  refine ⟨h.win.set hi (Nat.mod_lt _ lb_pos), ?_, fun p hp => ?_⟩
  · rw [LV_win, take_win_set, getD_set_eq _ _ _ (by rw [h.win.len]; omega), LV_take V i, LV_win, ← h.same i (Nat.le_refl _), hu, Nat.pow_succ]
    have h1 := h.eq
    have h3 := Nat.div_add_mod s lb
    have h2 : lb ^ i * (lb * (s / lb) + s % lb) = lb ^ i * (u + c + V.getD i 0) := by rw [h3, hs]
    generalize LV ((us'.drop j).take i) = A at *
    generalize LV (V.take i) = B at *
    generalize LV ((us.drop j).take i) = C at *
    generalize V.getD i 0 = y at *
    generalize s / lb = c2 at *
    generalize s % lb = q2 at *
    grind
  · rw [getD_set_ne _ _ (by omega)]; exact h.same p (by omega)
theorem win_lt {us : List Nat} (h : Lim us) {j n : Nat} (hj : j + n + 1 ≤ us.length) : LV ((us.drop j).take (n + 1)) < lb ^ (n + 1) := by
  have := LV_lt ((h.drop j).take (n + 1))
  rwa [List.length_take, List.length_drop, Nat.min_eq_left (by omega)] at this
/-- What the borrow tells. -/
theorem sub_end {U v g A c M : Nat} (hv : 0 < v) (hvM : v ≤ M) (h : A + g * v = U + c * M) (hA : A < M) (h1 : U / v ≤ g) (h2 : g ≤ U / v + 1) : (c = 0 → g = U / v ∧ A = U % v) ∧ (c ≠ 0 → g = U / v + 1 ∧ c = 1 ∧ A + v = M + U % v) := by
  have e := Nat.div_add_mod U v
  have hr := Nat.mod_lt U hv
  generalize U / v = q at *
  generalize U % v = r at *
  have hcase : g = q ∨ g = q + 1 := by omega
  rcases hcase with rfl | rfl
  · have e2 : v * g = g * v := Nat.mul_comm _ _
    have hc : c = 0 := by
      rcases Nat.eq_zero_or_pos c with z | z
      · exact z
      · have : 1 * M ≤ c * M := Nat.mul_le_mul_right _ z
        omega
    subst hc
    exact ⟨fun _ => ⟨rfl, by omega⟩, fun h => absurd rfl h⟩
  · have e2 : (q + 1) * v = v * q + v := by rw [Nat.succ_mul, Nat.mul_comm]
    rw [e2] at h
    have hc1 : c = 1 := by
      rcases Nat.lt_or_ge c 2 with z | z
      · rcases Nat.eq_zero_or_pos c with y | y
        · subst y; omega
        · omega
      · have : 2 * M ≤ c * M := Nat.mul_le_mul_right _ z
        omega
    subst hc1
    exact ⟨fun h => absurd h (by decide), fun _ => ⟨rfl, rfl, by omega⟩⟩
/-- What the carry tells. -/
theorem add_end {A B v c M r : Nat} (h : B + c * M = A + v) (hA : A + v = M + r) (hB : B < M) (hr : r < M) : B = r := by
  rcases Nat.lt_or_ge c 2 with z | z
  · rcases Nat.eq_zero_or_pos c with y | y
    · subst y; omega
    · obtain rfl : c = 1 := by omega
      omega
  · have : 2 * M ≤ c * M := Nat.mul_le_mul_right _ z
    omega
/-- The highest limbs of a window and of a divisor. -/
theorem dig_of {us V : List Nat} {j k v : Nat} (hL : Lim us) (hLV : Lim V) (hv : LV V = v) (hV : V.length = k + 2) (h0 : V.getD (k + 1) 0 ≠ 0) (hj : j + (k + 2) + 1 ≤ us.length) (hlt : LV ((us.drop j).take (k + 3)) < v * lb) : Dig k (LV ((us.drop j).take (k + 3))) v (us.getD (j + (k + 2)) 0 * lb + us.getD (j + (k + 1)) 0) (V.getD (k + 1) 0) (V.getD k 0) (us.getD (j + k) 0) := by
  refine ⟨⟨LV ((us.drop j).take k), ?_, ?_⟩, ⟨LV (V.take k), ?_, ?_⟩, by omega, hL.getD _, hLV.getD _, hlt⟩
  · have := LV_lt ((hL.drop j).take k)
    rwa [List.length_take, List.length_drop, Nat.min_eq_left (by omega)] at this
  · rw [LV_win, LV_win, LV_win, Nat.pow_succ, Nat.pow_succ]; grind
  · have := LV_lt (hLV.take k)
    rwa [List.length_take, Nat.min_eq_left (by omega)] at this
  · have h1 := LV_take V (k + 1)
    rw [List.take_of_length_le (by omega), LV_take, Nat.pow_succ] at h1
    rw [← hv, h1]; grind
end Go.Proofs.YtnlhalnjbkpdnaaGreatDoor
