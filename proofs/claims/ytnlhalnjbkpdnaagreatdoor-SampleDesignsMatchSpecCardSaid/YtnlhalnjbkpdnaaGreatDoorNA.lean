/- Natural numbers as limbs of nine digits, the lowest first: the plain law. The walks of trim, magnitude, small, order and compare. The walks of short and times. The walk of times. Conditions: none beyond what the claim form gives. -/
import Derived.Test.YtnlhalnjbkpdnaaGreatDoorLB
import Derived.StillTailTactics
namespace Go.Proofs.YtnlhalnjbkpdnaaGreatDoor
open Go.RowKit
set_option linter.unusedVariables false
set_option linter.unusedSimpArgs false
/-- The base of a limb. -/
def lb : Nat := 1000000000
theorem lb_pos : 0 < lb := by decide
theorem lb_gt : 1 < lb := by decide
def LV : List Nat → Nat
  | [] => 0
  | x :: xs => x + lb * LV xs
/-- The limbs of a number, without a highest one that is 0. -/
def limbs (n : Nat) : List Nat := if h : n = 0 then [] else (n % lb) :: limbs (n / lb)
termination_by n
decreasing_by exact Nat.div_lt_self (by omega) lb_gt
def Lim (xs : List Nat) : Prop := ∀ x ∈ xs, x < lb
theorem limbs_zero : limbs 0 = [] := by rw [limbs]; simp
theorem limbs_pos {n : Nat} (h : n ≠ 0) : limbs n = (n % lb) :: limbs (n / lb) := by rw [limbs]; simp [h]
theorem LV_limbs (n : Nat) : LV (limbs n) = n := by
  induction n using Nat.strongRecOn with
  | _ n ih =>
    by_cases h : n = 0
    · subst h; rw [limbs_zero]; rfl
    · rw [limbs_pos h, LV, ih _ (Nat.div_lt_self (by omega) lb_gt)]
      exact Nat.mod_add_div n lb
theorem limbs_lim (n : Nat) : Lim (limbs n) := by
  induction n using Nat.strongRecOn with
  | _ n ih =>
    by_cases h : n = 0
    · subst h; rw [limbs_zero]; intro x hx; simp at hx
    · rw [limbs_pos h]
      intro x hx
      rcases List.mem_cons.1 hx with rfl | hx
      · exact Nat.mod_lt _ lb_pos
      · exact ih _ (Nat.div_lt_self (by omega) lb_gt) x hx
theorem Lim.tail {x : Nat} {xs : List Nat} (h : Lim (x :: xs)) : x < lb ∧ Lim xs := ⟨h x (by simp), fun y hy => h y (by simp [hy])⟩
theorem LV_zero_of {xs : List Nat} : LV xs = 0 → ∀ x ∈ xs, x = 0 := by
  induction xs with
  | nil => intro _ x hx; simp at hx
  | cons y ys ih =>
    intro h x hx
    rw [LV] at h
    have h2 : lb * LV ys = 0 := by omega
    have h3 : LV ys = 0 := by rcases Nat.mul_eq_zero.1 h2 with q | q; exact absurd q (by decide); exact q
    rcases List.mem_cons.1 hx with rfl | hx
    · omega
    · exact ih h3 x hx
/-- Limbs without a highest 0 are the number's. -/
theorem limbs_LV : ∀ {xs : List Nat}, Lim xs → (∀ (h : xs ≠ []), xs.getLast h ≠ 0) → limbs (LV xs) = xs
  | [], _, _ => by rw [LV, limbs_zero]
  | x :: xs, hl, ht => by
    obtain ⟨h1, h2⟩ := hl.tail
    have hne : LV (x :: xs) ≠ 0 := fun h => by
      have := LV_zero_of h ((x :: xs).getLast (by simp)) (List.getLast_mem _)
      exact ht (by simp) this
    have e1 : LV (x :: xs) % lb = x := by rw [LV, Nat.add_mul_mod_self_left, Nat.mod_eq_of_lt h1]
    have e2 : LV (x :: xs) / lb = LV xs := by rw [LV, Nat.add_mul_div_left _ _ lb_pos, Nat.div_eq_of_lt h1, Nat.zero_add]
    rw [limbs_pos hne, e1, e2, limbs_LV h2 (fun h => by
      have := ht (by simp)
      rwa [List.getLast_cons h] at this)]
theorem LV_append (xs ys : List Nat) : LV (xs ++ ys) = LV xs + lb ^ xs.length * LV ys := by
  induction xs with
  | nil => simp [LV]
  | cons x xs ih =>
    rw [List.cons_append, LV, LV, ih, List.length_cons, Nat.pow_succ, Nat.mul_add, ← Nat.mul_assoc, Nat.mul_comm lb (lb ^ _)]
    omega
theorem LV_lt {xs : List Nat} : Lim xs → LV xs < lb ^ xs.length := by
  induction xs with
  | nil => intro _; simp [LV]
  | cons x xs ih =>
    intro h
    obtain ⟨h1, h2⟩ := h.tail
    have h3 := ih h2
    rw [LV, List.length_cons, Nat.pow_succ]
    have h4 : lb * (LV xs + 1) ≤ lb * lb ^ xs.length := Nat.mul_le_mul_left _ h3
    rw [Nat.mul_add, Nat.mul_one, Nat.mul_comm lb (lb ^ _)] at h4
    omega
theorem Lim.take {xs : List Nat} (h : Lim xs) (k : Nat) : Lim (xs.take k) := fun x hx => h x (List.mem_of_mem_take hx)
theorem Lim.drop {xs : List Nat} (h : Lim xs) (k : Nat) : Lim (xs.drop k) := fun x hx => h x (List.mem_of_mem_drop hx)
theorem Lim.append {xs ys : List Nat} (h : Lim xs) (k : Lim ys) : Lim (xs ++ ys) := fun x hx => by rcases List.mem_append.1 hx with q | q; exact h x q; exact k x q
theorem Lim.one {x : Nat} (h : x < lb) : Lim [x] := fun y hy => by simp at hy; rw [hy]; exact h
theorem Lim.getD {xs : List Nat} (h : Lim xs) (k : Nat) : xs.getD k 0 < lb := by
  by_cases hk : k < xs.length
  · rw [List.getD_eq_getElem?_getD, List.getElem?_eq_getElem hk]; exact h _ (List.getElem_mem _)
  · rw [List.getD_eq_getElem?_getD, List.getElem?_eq_none (by omega)]; exact lb_pos
theorem take_succ_getD (xs : List Nat) (k : Nat) (h : k < xs.length) : xs.take (k + 1) = xs.take k ++ [xs.getD k 0] := by
  rw [List.take_add_one, List.getElem?_eq_getElem h, List.getD_eq_getElem?_getD, List.getElem?_eq_getElem h]; rfl
/-- One limb more. -/
theorem LV_take (xs : List Nat) (k : Nat) : LV (xs.take (k + 1)) = LV (xs.take k) + lb ^ k * xs.getD k 0 := by
  by_cases h : k < xs.length
  · rw [take_succ_getD xs k h, LV_append, List.length_take, Nat.min_eq_left (by omega)]
    simp [LV]
  · rw [List.take_of_length_le (by omega), List.take_of_length_le (by omega), List.getD_eq_getElem?_getD, List.getElem?_eq_none (by omega)]
    simp
theorem LV_take_drop (xs : List Nat) (k : Nat) (h : k ≤ xs.length) : LV xs = LV (xs.take k) + lb ^ k * LV (xs.drop k) := by
  have := LV_append (xs.take k) (xs.drop k)
  rw [List.take_append_drop, List.length_take, Nat.min_eq_left h] at this
  exact this
theorem LV_drop (xs : List Nat) (k : Nat) (h : k < xs.length) : LV (xs.drop k) = xs.getD k 0 + lb * LV (xs.drop (k + 1)) := by
  rw [List.drop_eq_getElem_cons h, LV, List.getD_eq_getElem?_getD, List.getElem?_eq_getElem h]; rfl
theorem LV_drop_ge (xs : List Nat) (k : Nat) (h : xs.length ≤ k) : LV (xs.drop k) = 0 := by rw [List.drop_of_length_le h]; rfl
/-- A number's last limb is not 0. -/
theorem limbs_top : ∀ {n : Nat} (h : limbs n ≠ []), (limbs n).getLast h ≠ 0 := by
  intro n
  induction n using Nat.strongRecOn with
  | _ n ih =>
    intro h
    by_cases h0 : n = 0
    · subst h0; exact absurd limbs_zero h
    · by_cases h1 : limbs (n / lb) = []
      · have e : n / lb = 0 := by have := LV_limbs (n / lb); rw [h1] at this; exact this.symm
        have e2 : limbs n = [n % lb] := by rw [limbs_pos h0, h1]
        have : n % lb = n := by have := Nat.mod_add_div n lb; rw [e] at this; omega
        simp only [e2, List.getLast_singleton]
        omega
      · have := ih _ (Nat.div_lt_self (by omega) lb_gt) h1
        have e2 : (limbs n).getLast h = (limbs (n / lb)).getLast h1 := by
          have : limbs n = (n % lb) :: limbs (n / lb) := limbs_pos h0
          simp only [this, List.getLast_cons h1]
        rw [e2]; exact this
theorem limbs_nil {n : Nat} : limbs n = [] ↔ n = 0 := ⟨fun h => by have := LV_limbs n; rw [h] at this; exact this.symm, fun h => by rw [h, limbs_zero]⟩
theorem limbs_len0 {n : Nat} : (limbs n).length = 0 ↔ n = 0 := by rw [List.length_eq_zero_iff, limbs_nil]
theorem limbs_lt (n : Nat) : n < lb ^ (limbs n).length := by have := LV_lt (limbs_lim n); rwa [LV_limbs] at this
theorem getD_last {xs : List Nat} (h : xs ≠ []) : xs.getD (xs.length - 1) 0 = xs.getLast h := by
  rw [List.getLast_eq_getElem, List.getD_eq_getElem?_getD, List.getElem?_eq_getElem (by have := List.length_pos_iff.2 h; omega)]; rfl
theorem limbs_ge {n k : Nat} (h : (limbs n).length = k + 1) : lb ^ k ≤ n := by
  have hne : limbs n ≠ [] := fun e => by rw [e] at h; cases h
  have h1 := LV_take (limbs n) k
  rw [List.take_of_length_le (by omega), LV_limbs] at h1
  have h2 := getD_last hne
  rw [h, Nat.add_sub_cancel] at h2
  have h3 := limbs_top hne
  rw [← h2] at h3
  have : lb ^ k * 1 ≤ lb ^ k * (limbs n).getD k 0 := Nat.mul_le_mul_left _ (by omega)
  omega
theorem limbs_le {n k : Nat} (h : n < lb ^ k) : (limbs n).length ≤ k := by
  rcases Nat.lt_or_ge k (limbs n).length with q | q
  · exfalso
    obtain ⟨j, hj⟩ : ∃ j, (limbs n).length = j + 1 := ⟨(limbs n).length - 1, by omega⟩
    have h1 := limbs_ge hj
    have h2 : lb ^ k ≤ lb ^ j := Nat.pow_le_pow_right lb_pos (by omega)
    omega
  · exact q
theorem limbs_mono {m n : Nat} (h : m ≤ n) : (limbs m).length ≤ (limbs n).length := limbs_le (Nat.lt_of_le_of_lt h (limbs_lt n))
theorem limbs_mul (m n : Nat) : (limbs (m * n)).length ≤ (limbs m).length + (limbs n).length := by
  apply limbs_le
  rw [Nat.pow_add]
  exact Nat.mul_lt_mul'' (limbs_lt m) (limbs_lt n)
/-- Leading zeros left out. -/
theorem trim_eq {xs : List Nat} (h : Lim xs) {k : Nat} (hk : k ≤ xs.length) (hz : ∀ i, k ≤ i → i < xs.length → xs.getD i 0 = 0) (ht : k = 0 ∨ xs.getD (k - 1) 0 ≠ 0) : xs.take k = limbs (LV xs) := by
  have hd : LV (xs.drop k) = 0 := by
    have : ∀ j, k + j ≤ xs.length → LV (xs.drop (xs.length - j)) = 0 := by
      intro j
      induction j with
      | zero => intro _; rw [Nat.sub_zero]; exact LV_drop_ge _ _ (Nat.le_refl _)
      | succ j ih =>
        intro hj
        rw [LV_drop _ _ (by omega), show xs.length - (j + 1) + 1 = xs.length - j by omega, ih (by omega), hz _ (by omega) (by omega)]
        rfl
    have h2 := this (xs.length - k) (by omega)
    rwa [show xs.length - (xs.length - k) = k by omega] at h2
  have e : LV xs = LV (xs.take k) := by rw [LV_take_drop xs k hk, hd]; omega
  rw [e]
  refine (limbs_LV (h.take k) (fun hne => ?_)).symm
  have hk0 : 0 < k := by
    rcases Nat.eq_zero_or_pos k with q | q
    · subst q; simp at hne
    · exact q
  rcases ht with q | q
  · omega
  · have h3 := getD_last hne
    rw [List.length_take, Nat.min_eq_left hk] at h3
    rw [← h3]
    have : (xs.take k).getD (k - 1) 0 = xs.getD (k - 1) 0 := by
      rw [List.getD_eq_getElem?_getD, List.getD_eq_getElem?_getD, List.getElem?_take_of_lt (by omega)]
    rw [this]; exact q
/-- A natural number in memory: a slice of limbs of 64 bits. -/
instance : Rep Nat where
  size := 1
  rep := fun _ x cs => cs = [.int .u64 (x : Int)]
  len := by intro _ _ _ h; subst h; rfl
  mono := fun _ h => h
  one := by intro _ _ _ h u hu; subst h; simp at hu; subst hu; rfl
theorem SlV.natD {φ : Phi} {a : Option Addr} {cap : Nat} {xs : List Nat} (h : SlV φ a cap xs) {k n : Nat} (hn : Hid (xs.length = n)) (hk : k < n) :
    ∃ b off, a = some ⟨b, off, none⟩ ∧ ∀ k, k < n → ∀ w, Fz φ w → b < w.heap.size ∧ w.cell? ⟨b, off + k, none⟩ = some (.int .u64 ((xs.getD k 0 : Nat) : Int)) := by
  obtain ⟨b, off, ha, hc⟩ := h.cellsD 0 hn hk
  refine ⟨b, off, ha, fun k hk w hw => ?_⟩
  obtain ⟨cs, hr, hj⟩ := hc k hk
  cases hr
  have j0 := hj 0 (by simp)
  simp [Rep.size] at j0
  exact ⟨hw.lt j0, hw.cell j0⟩
theorem Own.natD {B : Nat} {φ : Phi} {w : World} {E : TypeId} {a : Option Addr} {cap : Nat} {xs : List Nat} (h : Own B φ w E a cap xs) {k n : Nat} (hn : Hid (xs.length = n)) (hk : k < n) :
    ∃ g, a = some ⟨g, 0, none⟩ ∧ g < w.heap.size ∧ ∀ k, k < n → w.cell? ⟨g, k, none⟩ = some (.int .u64 ((xs.getD k 0 : Nat) : Int)) ∧ w.frozen? ⟨g, k, none⟩ = false ∧
      ∀ (y : Nat) w0 φ0, Inv B w0 φ0 φ w → Own B φ (w.setCell ⟨g, k, none⟩ (.int .u64 (y : Int))) E a cap (xs.set k y) ∧ Inv B w0 φ0 φ (w.setCell ⟨g, k, none⟩ (.int .u64 (y : Int))) := by
  obtain ⟨g, rfl, _, hg, _, hf, hc⟩ := h.elem (k := k) (by rw [hn.out]; exact hk)
  refine ⟨g, rfl, hg, fun k hk => ?_⟩
  have hk' : k < xs.length := by rw [hn.out]; exact hk
  obtain ⟨cs, hcs, hj⟩ := hc k hk'
  have hcs' : cs = [.int .u64 (xs[k] : Int)] := hcs
  subst hcs'
  have h0 := hj 0 (by simp)
  simp [Rep.size] at h0
  refine ⟨by rw [h0, getD_elem0 _ _ _ hk'], hf k, fun y w0 φ0 hi => ?_⟩
  have := h.setCell hi hk' (y := y) (j := 0) (u := .int .u64 (y : Int)) hj rfl (by simp) rfl
  simpa [Rep.size] using this
end Go.Proofs.YtnlhalnjbkpdnaaGreatDoor

namespace Go.Proofs.YtnlhalnjbkpdnaaGreatDoor
open Go.RowKit
set_option linter.unusedVariables false
set_option linter.unusedSimpArgs false
def slN : Value → Nat
  | .slice _ n _ => n
  | _ => 0
theorem top_ex (xs : List Nat) : ∀ n, ∃ k, k ≤ n ∧ (∀ i, k ≤ i → i < n → xs.getD i 0 = 0) ∧ (k = 0 ∨ xs.getD (k - 1) 0 ≠ 0)
  | 0 => ⟨0, Nat.le_refl _, fun i _ hi => by omega, .inl rfl⟩
  | n + 1 => by
    by_cases h : xs.getD n 0 = 0
    · obtain ⟨k, h1, h2, h3⟩ := top_ex xs n
      refine ⟨k, by omega, fun i hi hin => ?_, h3⟩
      by_cases e : i = n
      · subst e; exact h
      · exact h2 i hi (by omega)
    · exact ⟨n + 1, Nat.le_refl _, fun i h1 h2 => by omega, .inr (by rw [Nat.add_sub_cancel]; exact h)⟩
theorem trim_take {xs : List Nat} (h : Lim xs) : ∃ k, k ≤ xs.length ∧ limbs (LV xs) = xs.take k := by
  obtain ⟨k, h1, h2, h3⟩ := top_ex xs xs.length
  exact ⟨k, h1, (trim_eq h h1 h2 h3).symm⟩
theorem SlV.trim {φ : Phi} {a : Option Addr} {c : Nat} {xs : List Nat} (s : SlV φ a c xs) (h : Lim xs) {m : Nat} (hm : LV xs = m) : SlV φ a c (limbs m) := by
  subst hm
  obtain ⟨k, _, e⟩ := trim_take h
  rw [e]; exact s.take k
set_option maxHeartbeats 1000000 in
theorem trim_any {n : Nat} {a : Option Addr} {c : Nat} {xs : List Nat} {w : World} {φ : Phi} (hφ : Fz φ w) (s : SlV φ a c xs) (hn : Hid (xs.length = n)) (hm : n ≤ 9000000000000000000) (hl : Hid (Lim xs)) {q : Nat} (hq : Hid ((limbs (LV xs)).length = q)) :
    Calls Tryz.prog 222 #[.slice a n c] w (fun e w' => e = .returned (.slice a q c) ∧ w = w') := by
  have hcap : n ≤ c := by rw [← hn.out]; exact s.capn
  go_enter Tryz.func222, Tryz.ntmps222
  go_wp2
  go_loop [0] (fun v => ∃ k : Nat, k ≤ n ∧ v = .slice a k c ∧ Hid (∀ i, k ≤ i → i < n → xs.getD i 0 = 0)) (fun v => slN v)
  case atStart => exact ⟨n, Nat.le_refl _, rfl, Lib.hid (fun i h1 h2 => by omega)⟩
  case round =>
    obtain ⟨k, hk, rfl, hz⟩ := hrel
    by_cases h0 : k = 0
    · have H0 := Lib.hid h0
      have hk0 : ¬ (0 : Int) < (k : Int) := by omega
      clear h0
      go_wp2
      go_ret
      have := trim_eq hl.out (k := k) (by rw [hn.out]; exact hk) (by rw [hn.out]; exact hz.out) (.inl H0.out)
      exact ⟨by rw [← hq.out, ← this, List.length_take, hn.out, Nat.min_eq_left hk]; rfl, rfl⟩
    · obtain ⟨b, off, rfl, f⟩ := s.natD hn (k := k - 1) (by omega)
      obtain ⟨hb, c1⟩ := f (k - 1) (by omega) w hφ
      obtain ⟨x, hx⟩ : ∃ x, Hid (xs.getD (k - 1) 0 = x) := ⟨_, Lib.hid rfl⟩
      rw [hx.out] at c1
      have hk0 : (0 : Int) < (k : Int) := by omega
      have hto : ((k : Int) - 1).toNat = k - 1 := by omega
      have hix : 0 ≤ (k : Int) - 1 := by omega
      have hix2 : (k : Int) - 1 < k := by omega
      have hlt : Hid (∀ i, k - 1 ≤ i → i < n → x = 0 → xs.getD i 0 = 0) := Lib.hid (fun i h1 h2 h3 => by
        by_cases e : i = k - 1
        · subst e; rw [hx.out, h3]
        · exact hz.out i (by omega) h2)
      clear f
      by_cases hx0 : x = 0
      · subst hx0
        go_wp2
        go_round
        case rel => exact ⟨k - 1, by omega, by go_num, Lib.hid (fun i h1 h2 => hlt.out i h1 h2 rfl)⟩
        case measure => simp [slN]; omega
      · have hne : ((x : Int) == 0) = false := by simp [hx0]
        have HX0 := Lib.hid hx0
        clear hx0
        go_wp2
        go_ret
        have := trim_eq hl.out (k := k) (by rw [hn.out]; exact hk) (by rw [hn.out]; exact hz.out) (.inr (by rw [hx.out]; exact HX0.out))
        exact ⟨by rw [← hq.out, ← this, List.length_take, hn.out, Nat.min_eq_left hk]; rfl, rfl⟩
theorem magnitude_any (n : Int) (h0 : -9223372036854775808 ≤ n) (h1 : n ≤ 9223372036854775807) (w : World) :
    Calls Tryz.prog 171 #[.int .i64 n] w (fun e w' => e = .returned (.int .u64 (n.natAbs : Int)) ∧ w = w') := by
  go_enter Tryz.func171, Tryz.ntmps171
  by_cases h : n < 0
  · go_wp2
    go_ret
    exact ⟨ret_int (by rw [IntKind.wrap_u64, IntKind.wrap_u64]; omega), rfl⟩
  · go_wp2
    go_ret
    exact ⟨ret_int (by omega), rfl⟩
theorem slNat : SliceTy Tryz.prog 201 215 (.int .u64 0) (Rep.size Nat) 8 := ⟨Tryz.underlying201, by kernel_rfl, rfl, by decide, by decide⟩
set_option maxHeartbeats 1000000 in
theorem small_any (m : Nat) (hm : m < 18446744073709551616) (w : World) (φ : Phi) (hφ : Fz φ w) :
    Calls Tryz.prog 170 #[.int .u64 (m : Int)] w (SlPost1 (limbs m) φ w) := by
  have hS0 : Hid (OwSt w φ 215 none 0 ([] : List Nat) w) := Lib.hid ⟨Inv.start hφ, Own.nil _ _ _ _⟩
  have hl3 : Hid ((limbs m).length ≤ 3) := Lib.hid (limbs_le (by
    have : lb ^ 3 = 1000000000000000000000000000 := by decide
    omega))
  go_enter Tryz.func170, Tryz.ntmps170
  go_wp2
  go_loopw [3, 0] (fun o v wr => ∃ (r : Nat) (ao : Option Addr) (co : Nat) (ds : List Nat), r < 18446744073709551616 ∧ v = .int .u64 (r : Int) ∧ o = .slice ao ds.length co ∧ Hid (limbs m = ds ++ limbs r) ∧ Hid (OwSt w φ 215 ao co ds wr)) (fun _ v _ => (intOf v).toNat)
  case atStart => exact ⟨m, none, 0, [], hm, rfl, rfl, Lib.hid rfl, hS0⟩
  case round =>
    clear hS0
    obtain ⟨r, ao, co, ds, hr, rfl, rfl, hd, hS⟩ := hrel
    by_cases h0 : r = 0
    · subst h0
      have e : Hid (limbs m = ds) := Lib.hid (by rw [hd.out, limbs_zero, List.append_nil])
      go_wp2
      go_ret
      obtain ⟨φ', _, hi, hs, _⟩ := hS.out.own.release hS.out.inv
      rw [e.out]
      exact ⟨ao, co, φ', rfl, hi, hs⟩
    · have hr0 : (0 : Int) < (r : Int) := by omega
      have hd2 : Hid (limbs m = (ds ++ [r % lb]) ++ limbs (r / lb)) := Lib.hid (by rw [hd.out, limbs_pos h0]; simp)
      have hdl : ds.length ≤ 3 := by
        have := hl3.out
        rw [hd.out, List.length_append] at this
        omega
      have hin := Lib.hid hS.out.inv
      have hon := Lib.hid hS.out.own
      have em : ((r % lb : Nat) : Int) = (r : Int) % 1000000000 := rfl
      have ed : ((r / lb : Nat) : Int) = (r : Int) / 1000000000 := rfl
      have EM := Lib.hid em
      have ED := Lib.hid ed
      have hlt : r / lb < r := Nat.div_lt_self (by omega) lb_gt
      clear em ed
      go_wp2_with (at_builtin; (refine wpList_app1F (α := Nat) rfl _ _ 201 rfl slNat hin.out ao co _ hon.out _ _ (r % lb) (by show [Value.int .u64 ((r : Int) % 1000000000)] = [Value.int .u64 ((r % lb : Nat) : Int)]; rw [EM.out]) rfl 1 rfl (by omega) ?_; intro a8 c8 w8 hi8 ho8 hg8 hf8))
      go_roundw
      case rel => exact ⟨r / lb, a8, c8, ds ++ [r % lb], by omega, by rw [ED.out], by simp, hd2, Lib.hid ⟨hi8, ho8⟩⟩
      case measure =>
        show (intOf (.int .u64 ((r : Int) / 1000000000))).toNat < (intOf (.int .u64 (r : Int))).toNat
        rw [← ED.out]
        simp only [intOf]
        omega
theorem order_any (x y : Int) (w : World) :
    Calls Tryz.prog 270 #[.int .i64 x, .int .i64 y] w (fun e w' => e = .returned (.int .i64 (if x < y then -1 else if y < x then 1 else 0)) ∧ w = w') := by
  go_enter Tryz.func270, Tryz.ntmps270
  by_cases h1 : x < y
  · go_wp2
    go_ret
    exact ⟨rfl, rfl⟩
  · by_cases h2 : y < x
    · go_wp2
      go_ret
      exact ⟨rfl, rfl⟩
    · go_wp2
      go_ret
      exact ⟨rfl, rfl⟩
/-- -1, 0 or 1. -/
def cmpN (m n : Nat) : Int := if m < n then -1 else if n < m then 1 else 0
theorem cmp_len {m n : Nat} (h : (limbs m).length < (limbs n).length) : m < n := by
  rcases Nat.lt_or_ge m n with q | q
  · exact q
  · have := limbs_mono q; omega
/-- The highest limb that differs decides. -/
theorem cmp_at {xs ys : List Nat} (hx : Lim xs) (hl : xs.length = ys.length) {k : Nat} (hk : k < xs.length) (hz : ∀ i, k < i → i < xs.length → xs.getD i 0 = ys.getD i 0) (h : xs.getD k 0 < ys.getD k 0) : LV xs < LV ys := by
  have key : ∀ j, k + 1 + j ≤ xs.length → LV (xs.drop (xs.length - j)) = LV (ys.drop (xs.length - j)) := by
    intro j
    induction j with
    | zero => intro _; rw [Nat.sub_zero, LV_drop_ge _ _ (Nat.le_refl _), LV_drop_ge _ _ (by omega)]
    | succ j ih =>
      intro hj
      rw [LV_drop _ _ (by omega), LV_drop ys _ (by omega), show xs.length - (j + 1) + 1 = xs.length - j by omega, ih (by omega), hz _ (by omega) (by omega)]
  have e := key (xs.length - (k + 1)) (by omega)
  rw [show xs.length - (xs.length - (k + 1)) = k + 1 by omega] at e
  rw [LV_take_drop xs (k + 1) (by omega), LV_take_drop ys (k + 1) (by omega), e, LV_take, LV_take]
  have h1 := LV_lt (hx.take k)
  rw [List.length_take, Nat.min_eq_left (by omega)] at h1
  have h2 : lb ^ k * (xs.getD k 0 + 1) ≤ lb ^ k * ys.getD k 0 := Nat.mul_le_mul_left _ h
  rw [Nat.mul_add, Nat.mul_one] at h2
  omega
set_option maxHeartbeats 1000000 in
theorem compare_any {m n k1 k2 : Nat} {a1 a2 : Option Addr} {c1 c2 : Nat} {w : World} {φ : Phi} (hφ : Fz φ w) (s1 : SlV φ a1 c1 (limbs m)) (s2 : SlV φ a2 c2 (limbs n)) (h1 : Hid ((limbs m).length = k1)) (h2 : Hid ((limbs n).length = k2)) (hk1 : k1 ≤ 4000000000) (hk2 : k2 ≤ 4000000000) {q : Int} (hq : Hid (cmpN m n = q)) :
    Calls Tryz.prog 232 #[.slice a1 k1 c1, .slice a2 k2 c2] w (fun e w' => e = .returned (.int .i64 q) ∧ Below w.heap.size w w') := by
  go_enter Tryz.func232, Tryz.ntmps232
  by_cases hl : k1 = k2
  case neg =>
    have hv : ∃ v : Int, (if (k1 : Int) < k2 then -1 else if (k2 : Int) < k1 then 1 else 0) = v ∧ v ≠ 0 ∧ q = v := by
      by_cases hlt : k1 < k2
      · refine ⟨-1, by rw [if_pos (by omega)], by decide, ?_⟩
        have := cmp_len (m := m) (n := n) (by rw [h1.out, h2.out]; exact hlt)
        rw [← hq.out, cmpN, if_pos this]
      · refine ⟨1, by rw [if_neg (by omega), if_pos (by omega)], by decide, ?_⟩
        have := cmp_len (m := n) (n := m) (by rw [h1.out, h2.out]; omega)
        rw [← hq.out, cmpN, if_neg (by omega), if_pos this]
    obtain ⟨v, hv1, hv2, rfl⟩ := hv
    have hg : ((q : Int) != 0) = true := by simp [hv2]
    have HV := Lib.hid hv1
    have HQ := Lib.hid hv2
    clear hv1 hv2
    go_wp2_with (go_at_call 270; refine (order_any _ _ _).mono ?_; rintro e w' ⟨rfl, rfl⟩; rw [HV.out])
    go_ret
    exact ⟨rfl, Below.refl _ _⟩
  subst hl
  have hv1 : Hid ((if (k1 : Int) < k1 then (-1 : Int) else if (k1 : Int) < k1 then 1 else 0) = 0) := Lib.hid (by simp)
  go_wp2_with (go_at_call 270; refine (order_any _ _ _).mono ?_; rintro e w' ⟨rfl, rfl⟩; rw [hv1.out])
  have hLx := Lib.hid (limbs_lim m)
  have hLy := Lib.hid (limbs_lim n)
  have hcmp := Lib.hid (fun k hk hz h => cmp_at (xs := limbs m) (ys := limbs n) (limbs_lim m) (by rw [h1.out, h2.out]) (k := k) hk hz h)
  have hcmp2 := Lib.hid (fun k hk hz h => cmp_at (xs := limbs n) (ys := limbs m) (limbs_lim n) (by rw [h1.out, h2.out]) (k := k) hk hz h)
  have heq : Hid ((∀ i, i < k1 → (limbs m).getD i 0 = (limbs n).getD i 0) → q = 0) := Lib.hid (fun h => by
    have e : limbs m = limbs n := by
      apply List.ext_getElem (by rw [h1.out, h2.out])
      intro i h3 h4
      rw [← getD_elem0 0 _ _ h3, ← getD_elem0 0 _ _ h4]
      exact h i (by rw [← h1.out]; exact h3)
    have e2 : m = n := by rw [← LV_limbs m, e, LV_limbs]
    rw [← hq.out, cmpN, e2, if_neg (by omega), if_neg (by omega)])
  rw [LV_limbs, LV_limbs] at hcmp hcmp2
  generalize limbs m = X at *
  generalize limbs n = Y at *
  go_loopw [6] (fun v wr => ∃ j : Nat, j ≤ k1 ∧ v = .int .i64 ((j : Int) - 1) ∧ Hid (∀ i, j ≤ i → i < k1 → X.getD i 0 = Y.getD i 0) ∧ Hid (Below w.heap.size w wr)) (fun v _ => (intOf v + 1).toNat)
  case atStart => exact ⟨k1, Nat.le_refl _, rfl, Lib.hid (fun i h3 h4 => by omega), Lib.hid (Below.refl _ _)⟩
  case round =>
    obtain ⟨j, hj, rfl, hz, hB⟩ := hrel
    by_cases hj0 : j = 0
    · have e0 : q = 0 := heq.out (fun i hi => hz.out i (by omega) hi)
      subst e0
      have hneg : ¬ (0 : Int) ≤ (j : Int) - 1 := by omega
      go_wp2
      go_ret
      exact ⟨rfl, hB.out⟩
    · obtain ⟨b1, o1, rfl, f1⟩ := s1.natD h1 (k := j - 1) (by omega)
      obtain ⟨b2, o2, rfl, f2⟩ := s2.natD h2 (k := j - 1) (by omega)
      obtain ⟨_, d1⟩ := f1 (j - 1) (by omega) wr (hφ.below hB.out)
      obtain ⟨_, d2⟩ := f2 (j - 1) (by omega) wr (hφ.below hB.out)
      have hlt1 := Lib.hid (hcmp.out (j - 1) (by rw [h1.out]; omega) (fun i h3 h4 => hz.out i (by omega) (by rw [← h1.out]; exact h4)))
      have hlt2 := Lib.hid (hcmp2.out (j - 1) (by rw [h2.out]; omega) (fun i h3 h4 => (hz.out i (by omega) (by rw [← h2.out]; exact h4)).symm))
      obtain ⟨x, hx⟩ : ∃ x, Hid (X.getD (j - 1) 0 = x) := ⟨_, Lib.hid rfl⟩
      obtain ⟨y, hy⟩ : ∃ y, Hid (Y.getD (j - 1) 0 = y) := ⟨_, Lib.hid rfl⟩
      have hnx : Hid (x = y → ∀ i, j - 1 ≤ i → i < k1 → X.getD i 0 = Y.getD i 0) := Lib.hid (fun e i h3 h4 => by
        by_cases e2 : i = j - 1
        · subst e2; rw [hx.out, hy.out, e]
        · exact hz.out i (by omega) h4)
      rw [hx.out] at d1
      rw [hy.out] at d2
      rw [hx.out, hy.out] at hlt1 hlt2
      have hpos : (0 : Int) ≤ (j : Int) - 1 := by omega
      have hbd : (j : Int) - 1 < k1 := by omega
      have hto : ((j : Int) - 1).toNat = j - 1 := by omega
      clear f1 f2
      by_cases hxy : x < y
      · have hq1 : q = -1 := by rw [← hq.out, cmpN, if_pos (hlt1.out hxy)]
        subst hq1
        have hxi : (x : Int) < (y : Int) := by omega
        go_wp2
        go_quiet (fail)
        clear hto
        go_wp2
        go_ret
        exact ⟨rfl, bdrewN hB.out _⟩
      · by_cases hyx : y < x
        · have hq1 : q = 1 := by
            have := hlt2.out hyx
            rw [← hq.out, cmpN, if_neg (by omega), if_pos this]
          subst hq1
          have hxi : ¬ (x : Int) < (y : Int) := by omega
          have hyi : (y : Int) < (x : Int) := by omega
          go_wp2
          go_quiet (fail)
          go_wp2
          go_quiet (fail)
          clear hto
          go_wp2
          go_ret
          exact ⟨rfl, bdrewN (bdrewN hB.out _) _⟩
        · have hxi : ¬ (x : Int) < (y : Int) := by omega
          have hyi : ¬ (y : Int) < (x : Int) := by omega
          go_wp2
          go_quiet (fail)
          go_wp2
          go_quiet (fail)
          go_wp2
          go_roundw
          case rel => exact ⟨j - 1, by omega, by go_num, Lib.hid (hnx.out (by omega)), by first | exact Lib.hid (bdrewN (bdrewN hB.out _) _) | exact Lib.hid (bdrewN hB.out _)⟩
          case measure => simp [intOf]; omega
end Go.Proofs.YtnlhalnjbkpdnaaGreatDoor

namespace Go.Proofs.YtnlhalnjbkpdnaaGreatDoor
open Go.RowKit
set_option linter.unusedVariables false
set_option linter.unusedSimpArgs false
/-- A natural number and a value. -/
def NatPostV (m : Nat) (v : Value) (φ : Phi) (w : World) (e : Ending) (w' : World) : Prop :=
  ∃ a cap φ', e = .returned (.tuple #[.slice a (limbs m).length cap, v]) ∧ Inv w.heap.size w φ φ' w' ∧ SlV φ' a cap (limbs m)
theorem LV_set_drop (xs : List Nat) {k : Nat} (hk : k < xs.length) (q : Nat) : LV ((xs.set k q).drop k) = q + lb * LV (xs.drop (k + 1)) := by
  rw [LV_drop _ _ (by rw [List.length_set]; exact hk), List.getD_eq_getElem?_getD, List.getElem?_set_self hk, List.drop_set_of_lt (by omega)]; rfl
theorem Lim.set {xs : List Nat} (h : Lim xs) {k q : Nat} (hq : q < lb) : Lim (xs.set k q) := fun x hx => by
  rcases List.mem_or_eq_of_mem_set hx with q1 | q1
  · exact h x q1
  · rw [q1]; exact hq
theorem Lim.zeros (n : Nat) : Lim (List.replicate n 0) := fun x hx => by rw [(List.mem_replicate.1 hx).2]; exact lb_pos
theorem divmod_of {m d q r : Nat} (hd : 0 < d) (h : m = d * q + r) (hr : r < d) : m / d = q ∧ m % d = r := by
  constructor
  · rw [h, Nat.mul_add_div hd, Nat.div_eq_of_lt hr, Nat.add_zero]
  · rw [h, Nat.mul_add_mod, Nat.mod_eq_of_lt hr]
set_option maxRecDepth 100000 in
set_option maxHeartbeats 2000000 in
theorem short_any {m k d : Nat} {a : Option Addr} {c : Nat} {w : World} {φ : Phi} (hφ : Fz φ w) (s : SlV φ a c (limbs m)) (hk : Hid ((limbs m).length = k)) (hk4 : k ≤ 4000000000) (hd0 : 0 < d) (hd1 : d ≤ 1000000000) :
    Calls Tryz.prog 281 #[.slice a k c, .int .u64 (d : Int)] w (NatPostV (m / d) (.int .u64 ((m % d : Nat) : Int)) φ w) := by
  have hI := Lib.hid (Inv.start hφ)
  go_enter Tryz.func281, Tryz.ntmps281
  go_wp2_with (at_make; (refine wpList_mkn (α := Nat) rfl _ _ 201 rfl slNat hI.out _ _ k 0 (fun _ => rfl) rfl rfl rfl (by omega) ?_; intro w1 hi1 ho1 hg1))
  have hS0 : Hid (OwSt w φ 215 (some ⟨w.heap.size, 0, none⟩) k (List.replicate k 0) w1) := Lib.hid ⟨hi1, ho1⟩
  have hLm : Hid (Lim (limbs m)) := Lib.hid (limbs_lim m)
  have hmv : Hid (LV (limbs m) = m) := Lib.hid (LV_limbs m)
  generalize limbs m = X at *
  clear hi1 ho1 hg1
  go_loopw [7, 8] (fun rv v wr => ∃ (j r : Nat) (os : List Nat), j ≤ k ∧ r < d ∧ rv = .int .u64 (r : Int) ∧ v = .int .i64 ((j : Int) - 1) ∧ Hid (os.length = k) ∧ Hid (Lim os) ∧ Hid (LV (X.drop j) = d * LV (os.drop j) + r) ∧ Hid (OwSt w φ 215 (some ⟨w.heap.size, 0, none⟩) k os wr)) (fun _ v _ => (intOf v + 1).toNat)
  case atStart => exact ⟨k, 0, List.replicate k 0, Nat.le_refl _, hd0, rfl, rfl, Lib.hid (by simp), Lib.hid (Lim.zeros k), Lib.hid (by rw [LV_drop_ge _ _ (by rw [hk.out]; exact Nat.le_refl _), LV_drop_ge _ _ (by simp)]; rfl), hS0⟩
  case round =>
    clear hS0
    obtain ⟨j, r, os, hj, hr, rfl, rfl, hol, hoL, hinv, hS⟩ := hrel
    by_cases hj0 : j = 0
    · subst hj0
      have hdm : Hid (m / d = LV os ∧ m % d = r) := Lib.hid (by
        have := hinv.out
        rw [List.drop_zero, List.drop_zero, hmv.out] at this
        exact divmod_of hd0 this hr)
      obtain ⟨φ', _, hi, hs, _⟩ := hS.out.own.release hS.out.inv
      have HS' := Lib.hid hs
      have HI' := Lib.hid hi
      clear hi hs
      have hneg : ¬ (0 : Int) ≤ ((0 : Nat) : Int) - 1 := by omega
      obtain ⟨q, hq⟩ : ∃ q, Hid ((limbs (LV os)).length = q) := ⟨_, Lib.hid rfl⟩
      go_wp2_with (go_at_call 222; refine (trim_any HI'.out.fz HS'.out hol (by omega) hoL hq).mono ?_; rintro e w' ⟨rfl, rfl⟩)
      go_ret2
      refine ⟨some ⟨w.heap.size, 0, none⟩, k, φ', ?_, HI'.out, ?_⟩
      · rw [hdm.out.1, hdm.out.2, hq.out]; rfl
      · rw [hdm.out.1]; exact HS'.out.trim hoL.out rfl
    · obtain ⟨b, off, rfl, f⟩ := s.natD hk (k := j - 1) (by omega)
      obtain ⟨_, d1⟩ := f (j - 1) (by omega) wr hS.out.inv.fz
      obtain ⟨x, hx⟩ : ∃ x, Hid (X.getD (j - 1) 0 = x) := ⟨_, Lib.hid rfl⟩
      have hxl : x < 1000000000 := by rw [← hx.out]; exact hLm.out.getD _
      rw [hx.out] at d1
      obtain ⟨g, hga, hgl, fo⟩ := hS.out.own.natD hol (k := j - 1) (by omega)
      cases hga
      obtain ⟨e1, e2, e3⟩ := fo (j - 1) (by omega)
      have hsz : r * 1000000000 + x < d * 1000000000 := by
        have : (r + 1) * 1000000000 ≤ d * 1000000000 := Nat.mul_le_mul_right _ hr
        omega
      have hdl : d * 1000000000 ≤ 1000000000 * 1000000000 := Nat.mul_le_mul_right _ hd1
      obtain ⟨S, hSe⟩ : ∃ S, S = r * 1000000000 + x := ⟨_, rfl⟩
      have hq9 : S / d < 1000000000 := (Nat.div_lt_iff_lt_mul hd0).2 (by rw [hSe]; omega)
      have hr9 : S % d < d := Nat.mod_lt _ hd0
      have hnext : Hid (LV (X.drop (j - 1)) = d * LV ((os.set (j - 1) (S / d)).drop (j - 1)) + S % d) := Lib.hid (by
        rw [LV_set_drop _ (by rw [hol.out]; omega), LV_drop _ _ (by rw [hk.out]; omega), show j - 1 + 1 = j by omega, hinv.out, hx.out, Nat.mul_add, Nat.mul_add, Nat.mul_left_comm lb d]
        have e4 := Nat.div_add_mod S d
        have e5 : lb * r = r * 1000000000 := Nat.mul_comm _ _
        omega)
      have hoN : Hid (Lim (os.set (j - 1) (S / d))) := Lib.hid (hoL.out.set hq9)
      have hst := Lib.hid (e3 (S / d) w φ hS.out.inv)
      have hpos : (0 : Int) ≤ (j : Int) - 1 := by omega
      have hbd : (j : Int) - 1 < k := by omega
      have hto : ((j : Int) - 1).toNat = j - 1 := by omega
      have hSi : (r : Int) * 1000000000 + (x : Int) = (S : Int) := by omega
      have hrs : (r : Int) * 1000000000 ≤ 18446744073709551615 := by omega
      have HSI := Lib.hid hSi
      have hd0i : (1 : Int) ≤ (d : Int) := by omega
      have hS9 : (S : Int) ≤ 18446744073709551615 := by omega
      have ed : ((S / d : Nat) : Int) = (S : Int) / (d : Int) := rfl
      have er : ((S % d : Nat) : Int) = (S : Int) % (d : Int) := rfl
      have ED := Lib.hid (And.intro ed er)
      have HSE := Lib.hid hSe
      have hq1 : IntKind.u64.wrap ((S : Int) / (d : Int)) = ((S / d : Nat) : Int) := by
        rw [← ed]
        exact IntWalk.u64_in _ ⟨Int.natCast_nonneg _, by have := Int.ofNat_le.2 (Nat.le_of_lt hq9); exact Int.le_trans this (by decide)⟩
      have hdz : ((d : Int) == 0) = false := by simp; omega
      have HQ1 := Lib.hid hq1
      clear f fo e3 ed er hSe hsz hdl hq1 hSi
      go_wp2
      rw [HSI.out]
      go_region
      rw [HQ1.out, ← ED.out.2]
      go_wp2
      go_roundw
      case rel => exact ⟨j - 1, S % d, os.set (j - 1) (S / d), by omega, hr9, rfl, by go_num, Lib.hid (by rw [List.length_set]; exact hol.out), hoN, hnext, Lib.hid ⟨hst.out.2.drew, hst.out.1.drew⟩⟩
      case measure => simp [intOf]; omega
theorem LV_set (xs : List Nat) (q : Nat) : ∀ {k : Nat}, k < xs.length → LV (xs.set k q) + lb ^ k * xs.getD k 0 = LV xs + lb ^ k * q := by
  induction xs with
  | nil => intro k hk; simp at hk
  | cons x xs ih =>
    intro k hk
    cases k with
    | zero => simp only [List.set_cons_zero, LV, Nat.pow_zero, Nat.one_mul, List.getD_cons_zero]; omega
    | succ k =>
      have := ih (k := k) (by simpa using hk)
      simp only [List.set_cons_succ, LV, List.getD_cons_succ, Nat.pow_succ]
      have e1 : lb ^ k * lb * xs.getD k 0 = lb * (lb ^ k * xs.getD k 0) := by grind
      have e2 : lb ^ k * lb * q = lb * (lb ^ k * q) := by grind
      have e3 : lb * (LV (xs.set k q) + lb ^ k * xs.getD k 0) = lb * (LV xs + lb ^ k * q) := by rw [this]
      rw [Nat.mul_add, Nat.mul_add] at e3
      rw [e1, e2]
      omega
/-- One step of a row of the product. -/
theorem mul_step {L L' c c' o q s x b V T Q K : Nat} (h1 : L + c * (Q * K) = V + x * T * Q) (h2 : L' + (Q * K) * o = L + (Q * K) * q) (h3 : s = lb * c' + q) (h4 : s = o + c + x * b) : L' + c' * (Q * K * lb) = V + x * (T + K * b) * Q := by
  have h5 : (Q * K) * (lb * c' + q) = (Q * K) * (o + c + x * b) := by rw [← h3, h4]
  grind
end Go.Proofs.YtnlhalnjbkpdnaaGreatDoor

namespace Go.Proofs.YtnlhalnjbkpdnaaGreatDoor
open Go.RowKit
set_option linter.unusedVariables false
set_option linter.unusedSimpArgs false
theorem LV_zeros : ∀ n, LV (List.replicate n 0) = 0
  | 0 => rfl
  | n + 1 => by rw [List.replicate_succ, LV, LV_zeros n, Nat.mul_zero]
def NatPost (m : Nat) (φ : Phi) (w : World) (e : Ending) (w' : World) : Prop :=
  ∃ a cap φ', e = .returned (.slice a (limbs m).length cap) ∧ Inv w.heap.size w φ φ' w' ∧ SlV φ' a cap (limbs m)
/-- Where a row's carry can still stand. -/
theorem carry_bd {L c i j nb V A x B : Nat} (h1 : L + c * lb ^ (i + j) = V + x * B * lb ^ i) (hV : V = A * B) (hA : A < lb ^ i) (hB : B < lb ^ nb) (hx : x < lb) (hc : 0 < c) : j ≤ nb := by
  rcases Nat.lt_or_ge nb j with h | h
  · exfalso
    have e1 : lb ^ (i + nb + 1) ≤ lb ^ (i + j) := Nat.pow_le_pow_right lb_pos (by omega)
    have e2 : 1 * lb ^ (i + j) ≤ c * lb ^ (i + j) := Nat.mul_le_mul_right _ hc
    have e3 : V + x * B * lb ^ i = (A + x * lb ^ i) * B := by rw [hV]; grind
    have e4 : A + x * lb ^ i < lb ^ i * lb := by
      have h5 : (x + 1) * lb ^ i ≤ lb * lb ^ i := Nat.mul_le_mul_right _ hx
      rw [Nat.mul_comm (lb ^ i) lb]
      rw [Nat.add_mul, Nat.one_mul] at h5
      omega
    have e5 : (A + x * lb ^ i) * B < (lb ^ i * lb) * lb ^ nb := Nat.mul_lt_mul'' e4 hB
    have e6 : (lb ^ i * lb) * lb ^ nb = lb ^ (i + nb + 1) := by rw [Nat.pow_succ, Nat.pow_add]; grind
    omega
  · exact h
set_option maxRecDepth 100000 in
set_option maxHeartbeats 4000000 in
theorem times_any {m n na nb : Nat} {a b : Option Addr} {ca cb : Nat} {w : World} {φ : Phi} (hφ : Fz φ w) (sa : SlV φ a ca (limbs m)) (sb : SlV φ b cb (limbs n)) (hna : Hid ((limbs m).length = na)) (hnb : Hid ((limbs n).length = nb)) (h4a : na ≤ 2000000000) (h4b : nb ≤ 2000000000) :
    Calls Tryz.prog 157 #[.slice a na ca, .slice b nb cb] w (NatPost (m * n) φ w) := by
  have hI := Lib.hid (Inv.start hφ)
  have hsum : Hid ((na : Int) + (nb : Int) = ((na + nb : Nat) : Int)) := Lib.hid (by omega)
  go_enter Tryz.func157, Tryz.ntmps157
  go_wp2_with (at_make; (refine wpList_mkn (α := Nat) rfl _ _ 201 rfl slNat hI.out _ _ (na + nb) 0 (fun _ => rfl) rfl rfl rfl (by omega) ?_; intro w1 hi1 ho1 hg1))
  have hS0 : Hid (OwSt w φ 215 (some ⟨w.heap.size, 0, none⟩) (na + nb) (List.replicate (na + nb) 0) w1) := Lib.hid ⟨hi1, ho1⟩
  have hLa : Hid (Lim (limbs m)) := Lib.hid (limbs_lim m)
  have hLb : Hid (Lim (limbs n)) := Lib.hid (limbs_lim n)
  have hma : Hid (LV (limbs m) = m) := Lib.hid (LV_limbs m)
  have hmb : Hid (LV (limbs n) = n) := Lib.hid (LV_limbs n)
  have hbL : Hid (n < lb ^ nb) := Lib.hid (by rw [← hnb.out]; exact limbs_lt n)
  generalize limbs m = A at *
  generalize limbs n = B at *
  obtain ⟨N, hN⟩ : ∃ N, Hid (na + nb = N) := ⟨_, Lib.hid rfl⟩
  have hN4 : N ≤ 4000000000 := by rw [← hN.out]; omega
  rw [hN.out] at hS0 ⊢
  clear hi1 ho1 hg1
  go_loopw [19] (fun v wr => ∃ (i : Nat) (os : List Nat), i ≤ na ∧ v = .int .i64 (i : Int) ∧ Hid (os.length = N) ∧ Hid (Lim os) ∧ Hid (LV os = LV (A.take i) * n) ∧ Hid (OwSt w φ 215 (some ⟨w.heap.size, 0, none⟩) N os wr)) (fun v _ => na - (intOf v).toNat)
  case atStart => exact ⟨0, List.replicate N 0, Nat.zero_le _, rfl, Lib.hid (by simp), Lib.hid (Lim.zeros N), Lib.hid (by rw [List.take_zero, LV, Nat.zero_mul, LV_zeros]), hS0⟩
  case round =>
    clear hS0
    obtain ⟨i, os, hi, rfl, hol, hoL, hov, hS⟩ := hrel
    by_cases hlt : i < na
    · obtain ⟨ba, oa, rfl, f⟩ := sa.natD hna hlt
      obtain ⟨_, d1⟩ := f i hlt wr hS.out.inv.fz
      obtain ⟨x, hx⟩ : ∃ x, Hid (A.getD i 0 = x) := ⟨_, Lib.hid rfl⟩
      have hxl : x < 1000000000 := by rw [← hx.out]; exact hLa.out.getD _
      rw [hx.out] at d1
      have htk : Hid (LV (A.take (i + 1)) = LV (A.take i) + lb ^ i * x) := Lib.hid (by rw [LV_take, hx.out])
      have hAi : Hid (LV (A.take i) < lb ^ i) := Lib.hid (by have := LV_lt (hLa.out.take i); rwa [List.length_take, Nat.min_eq_left (by rw [hna.out]; omega)] at this)
      clear f
      go_wp2
      clear d1
      go_loopw [8, 9] (fun cv kv wi => ∃ (c k : Nat) (os' : List Nat), k ≤ nb + 1 ∧ c < 1000000000 ∧ (k = nb + 1 → c = 0) ∧ cv = .int .u64 (c : Int) ∧ kv = .int .i64 (k : Int) ∧ Hid (os'.length = N) ∧ Hid (Lim os') ∧ Hid (LV os' + c * (lb ^ i * lb ^ k) = LV os + x * LV (B.take k) * lb ^ i) ∧ Hid (OwSt w φ 215 (some ⟨w.heap.size, 0, none⟩) N os' wi)) (fun _ kv _ => nb + 1 - (intOf kv).toNat)
      case atStart => exact ⟨0, 0, os, by omega, by omega, fun h => by omega, rfl, rfl, hol, hoL, Lib.hid (by simp [LV]), hS⟩
      case round =>
        clear hS
        obtain ⟨c, k, os', hk, hc, hkc, rfl, rfl, hol', hoL', hinv, hSi⟩ := hrel
        rename World => wi
        by_cases hend : ¬ k < nb ∧ c = 0
        · obtain ⟨hkn, rfl⟩ := hend
          have hkn2 : ¬ (k : Int) < (nb : Int) := by omega
          have hout : Hid (LV os' = LV (A.take (i + 1)) * n) := Lib.hid (by
            have h := hinv.out
            rw [Nat.zero_mul, Nat.add_zero, List.take_of_length_le (by rw [hnb.out]; omega), hmb.out, hov.out] at h
            rw [h, htk.out]; grind)
          go_wp2
          go_roundw
          case rel => exact ⟨i + 1, os', by omega, by go_num, hol', hoL', hout, hSi⟩
          case measure => (simp [intOf] <;> omega)
        · have hki : k ≤ nb := by
            rcases Nat.lt_or_ge k nb with q | q
            · omega
            · have hc0 : 0 < c := by omega
              have h := hinv.out
              rw [List.take_of_length_le (by rw [hnb.out]; omega), hmb.out, ← Nat.pow_add] at h
              exact carry_bd h hov.out hAi.out hbL.out hxl hc0
          have hin : i + k < N := by
            rcases Nat.lt_or_ge k nb with q | q
            · rw [← hN.out]; omega
            · rw [← hN.out]; omega
          obtain ⟨g, hga, hgl, fo⟩ := hSi.out.own.natD hol' hin
          cases hga
          obtain ⟨e1, e2, e3⟩ := fo (i + k) hin
          obtain ⟨o, ho⟩ : ∃ o, Hid (os'.getD (i + k) 0 = o) := ⟨_, Lib.hid rfl⟩
          have hoo : o < 1000000000 := by rw [← ho.out]; exact hoL'.out.getD _
          rw [ho.out] at e1
          have hset := Lib.hid (fun q => LV_set os' q (k := i + k) (by rw [hol'.out]; exact hin))
          rw [ho.out, Nat.pow_add] at hset
          have E3 := Lib.hid e3
          have hw1 : IntKind.i64.wrap ((i : Int) + (k : Int)) = ((i + k : Nat) : Int) := by rw [IntWalk.i64_in _ (by omega)]; omega
          have hii : (i : Int) + (k : Int) = ((i + k : Nat) : Int) := by omega
          have hto : ((i : Int) + (k : Int)).toNat = i + k := by omega
          have hb1 : (i : Int) + (k : Int) < (N : Int) := by omega
          have hb0 : (0 : Int) ≤ (i : Int) + (k : Int) := by omega
          clear e3 fo hw1 hii
          by_cases hkn : k < nb
          · obtain ⟨bb, ob, rfl, f2⟩ := sb.natD hnb hkn
            obtain ⟨_, d2⟩ := f2 k hkn wi hSi.out.inv.fz
            obtain ⟨y, hy⟩ : ∃ y, Hid (B.getD k 0 = y) := ⟨_, Lib.hid rfl⟩
            have hyl : y < 1000000000 := by rw [← hy.out]; exact hLb.out.getD _
            rw [hy.out] at d2
            obtain ⟨p, hp⟩ : ∃ p, p = x * y := ⟨_, rfl⟩
            have hpl : p ≤ 999999999 * 999999999 := by rw [hp]; exact Nat.mul_le_mul (by omega) (by omega)
            have hpi : (x : Int) * (y : Int) = (p : Int) := by rw [hp]; exact (Int.natCast_mul x y).symm
            obtain ⟨S, hSe⟩ : ∃ S, Hid (S = o + c + p) := ⟨_, Lib.hid rfl⟩
            have hSl : o + c + p < 1000000000 * 1000000000 := by omega
            have hSm : Hid (((o : Int) + (c : Int) + (p : Int)) % 1000000000 = ((S % lb : Nat) : Int)) := Lib.hid (by rw [hSe.out]; exact (Int.natCast_emod (o + c + p) lb).symm ▸ rfl)
            have hSd : Hid (((o : Int) + (c : Int) + (p : Int)) / 1000000000 = ((S / lb : Nat) : Int)) := Lib.hid (by rw [hSe.out]; exact (Int.natCast_ediv (o + c + p) lb).symm ▸ rfl)
            have hc9 : S / lb < 1000000000 := (Nat.div_lt_iff_lt_mul lb_pos).2 (by rw [hSe.out]; exact hSl)
            have hq9 : S % lb < lb := Nat.mod_lt _ lb_pos
            have hnext : Hid (LV (os'.set (i + k) (S % lb)) + S / lb * (lb ^ i * lb ^ (k + 1)) = LV os + x * LV (B.take (k + 1)) * lb ^ i) := Lib.hid (by
              have h5 := mul_step (K := lb ^ k) (Q := lb ^ i) (T := LV (B.take k)) (b := y) (s := S) (c' := S / lb) (q := S % lb) (o := o) (by rw [hinv.out]) (hset.out (S % lb)) (by rw [Nat.div_add_mod]) (by rw [hSe.out, hp])
              have h6 : lb ^ i * lb ^ (k + 1) = lb ^ i * lb ^ k * lb := by rw [Nat.pow_succ, Nat.mul_assoc]
              rw [LV_take, hy.out, h6]
              exact h5)
            have hst := Lib.hid (E3.out (S % lb) w φ hSi.out.inv)
            have hki2 : (k : Int) < (nb : Int) := by omega
            clear hp f2
            go_wp2
            rw [hSm.out, hSd.out]
            go_roundw
            case rel => exact ⟨S / lb, k + 1, os'.set (i + k) (S % lb), by omega, hc9, fun h => by omega, rfl, by go_num, Lib.hid (by rw [List.length_set]; exact hol'.out), Lib.hid (hoL'.out.set hq9), hnext, Lib.hid ⟨hst.out.2, hst.out.1⟩⟩
            case measure => (simp [intOf] <;> omega)
          · have hkn2 : ¬ (k : Int) < (nb : Int) := by omega
            have hc0 : 0 < c := by omega
            have hc0i : (0 : Int) < (c : Int) := by omega
            obtain ⟨S, hSe⟩ : ∃ S, Hid (S = o + c) := ⟨_, Lib.hid rfl⟩
            have hSl : o + c < 1000000000 * 1000000000 := by omega
            have hSm : Hid (((o : Int) + (c : Int)) % 1000000000 = ((S % lb : Nat) : Int)) := Lib.hid (by rw [hSe.out]; exact (Int.natCast_emod (o + c) lb).symm ▸ rfl)
            have hSd : Hid (((o : Int) + (c : Int)) / 1000000000 = ((S / lb : Nat) : Int)) := Lib.hid (by rw [hSe.out]; exact (Int.natCast_ediv (o + c) lb).symm ▸ rfl)
            have hc9 : S / lb < 1000000000 := (Nat.div_lt_iff_lt_mul lb_pos).2 (by rw [hSe.out]; exact hSl)
            have hq9 : S % lb < lb := Nat.mod_lt _ lb_pos
            have hB0 : Hid (LV (B.take (k + 1)) = LV (B.take k)) := Lib.hid (by rw [List.take_of_length_le (by rw [hnb.out]; omega), List.take_of_length_le (by rw [hnb.out]; omega)])
            have hnext : Hid (LV (os'.set (i + k) (S % lb)) + S / lb * (lb ^ i * lb ^ (k + 1)) = LV os + x * LV (B.take (k + 1)) * lb ^ i) := Lib.hid (by
              have h5 := mul_step (K := lb ^ k) (Q := lb ^ i) (T := LV (B.take k)) (b := 0) (s := S) (c' := S / lb) (q := S % lb) (o := o) (by rw [hinv.out]) (hset.out (S % lb)) (by rw [Nat.div_add_mod]) (by rw [hSe.out, Nat.mul_zero, Nat.add_zero])
              have h6 : lb ^ i * lb ^ (k + 1) = lb ^ i * lb ^ k * lb := by rw [Nat.pow_succ, Nat.mul_assoc]
              rw [hB0.out, h6]
              rw [Nat.mul_zero, Nat.add_zero] at h5
              exact h5)
            have hst := Lib.hid (E3.out (S % lb) w φ hSi.out.inv)
            have hz9 : Hid (S / lb = 0) := Lib.hid (by
              rcases Nat.eq_zero_or_pos (S / lb) with q | q
              · exact q
              · have h := hnext.out
                rw [List.take_of_length_le (by rw [hnb.out]; omega), hmb.out, ← Nat.pow_add] at h
                have := carry_bd h hov.out hAi.out hbL.out hxl q
                omega)
            clear hset E3
            go_wp2
            rw [hSm.out, hSd.out]
            go_roundw
            case rel => exact ⟨S / lb, k + 1, os'.set (i + k) (S % lb), by omega, hc9, fun _ => hz9.out, rfl, by go_num, Lib.hid (by rw [List.length_set]; exact hol'.out), Lib.hid (hoL'.out.set hq9), hnext, Lib.hid ⟨hst.out.2, hst.out.1⟩⟩
            case measure => (simp [intOf] <;> omega)
    · obtain rfl : na = i := by omega
      have hfin : Hid (LV os = m * n) := Lib.hid (by rw [hov.out, List.take_of_length_le (by rw [hna.out]; exact Nat.le_refl _), hma.out])
      obtain ⟨φ', _, hi', hs, _⟩ := hS.out.own.release hS.out.inv
      have HS' := Lib.hid hs
      have HI' := Lib.hid hi'
      clear hi' hs
      obtain ⟨q, hq⟩ : ∃ q, Hid ((limbs (LV os)).length = q) := ⟨_, Lib.hid rfl⟩
      go_wp2_with (go_at_call 222; refine (trim_any HI'.out.fz HS'.out hol (by omega) hoL hq).mono ?_; rintro e w' ⟨rfl, rfl⟩)
      go_ret
      refine ⟨some ⟨w.heap.size, 0, none⟩, N, φ', ?_, HI'.out, HS'.out.trim hoL.out hfin.out⟩
      rw [← hfin.out, hq.out]; rfl
end Go.Proofs.YtnlhalnjbkpdnaaGreatDoor
