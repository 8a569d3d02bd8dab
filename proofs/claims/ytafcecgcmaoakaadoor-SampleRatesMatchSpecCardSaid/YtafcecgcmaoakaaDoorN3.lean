/- The walks of short and times. Conditions: none beyond what the claim form gives. -/
import Derived.Test.YtafcecgcmaoakaaDoorN2
namespace Go.Proofs.YtafcecgcmaoakaaDoor
open Go.RowKit
set_option linter.unusedVariables false
/-- A natural number and a value. -/
def NatPostV (m : Nat) (v : Value) (φ : Phi) (w : World) (e : Ending) (w' : World) : Prop :=
  ∃ a cap φ', e = .returned (.tuple #[.slice a (limbs m).length cap, v]) ∧ Inv w.heap.size w φ φ' w' ∧ SlV φ' a cap (limbs m)
theorem LV_set_drop (xs : List Nat) {k : Nat} (hk : k < xs.length) (q : Nat) : LV ((xs.set k q).drop k) = q + lb * LV (xs.drop (k + 1)) := by
  rw [LV_drop _ _ (by rw [List.length_set]; exact hk), List.getD_eq_getElem?_getD, List.getElem?_set_self hk, List.drop_set_of_lt (by omega)]; rfl
theorem Lim.set {xs : List Nat} (h : Lim xs) {k q : Nat} (hq : q < lb) : Lim (xs.set k q) := fun x hx => by
  rcases List.mem_or_eq_of_mem_set hx with q1 | q1
  · exact h x q1
  · rw [q1]; exact hq
theorem Lim.zeros (n : Nat) : Lim (List.replicate n 0) := fun x hx => by rw [(List.mem_replicate.1 hx).2]; exact lb_pos
theorem divmod_of {m d q r : Nat} (hd : 0 < d) (h : m = d * q + r) (hr : r < d) : m / d = q ∧ m % d = r := by
  constructor
  · rw [h, Nat.mul_add_div hd, Nat.div_eq_of_lt hr, Nat.add_zero]
  · rw [h, Nat.mul_add_mod, Nat.mod_eq_of_lt hr]
set_option maxRecDepth 100000 in
set_option maxHeartbeats 2000000 in
theorem short_any {m k d : Nat} {a : Option Addr} {c : Nat} {w : World} {φ : Phi} (hφ : Fz φ w) (s : SlV φ a c (limbs m)) (hk : Hid ((limbs m).length = k)) (hk4 : k ≤ 4000000000) (hd0 : 0 < d) (hd1 : d ≤ 1000000000) :
    Calls Tryd.prog 149 #[.slice a k c, .int .u64 (d : Int)] w (NatPostV (m / d) (.int .u64 ((m % d : Nat) : Int)) φ w) := by
  have hI := Lib.hid (Inv.start hφ)
  go_enter Tryd.func149, Tryd.ntmps149
  go_wp2_with (at_make; (refine wpList_mkn (α := Nat) rfl _ _ 115 rfl slNat hI.out _ _ k 0 (fun _ => rfl) rfl rfl rfl (by omega) ?_; intro w1 hi1 ho1 hg1))
  have hS0 : Hid (OwSt w φ 117 (some ⟨w.heap.size, 0, none⟩) k (List.replicate k 0) w1) := Lib.hid ⟨hi1, ho1⟩
  have hLm : Hid (Lim (limbs m)) := Lib.hid (limbs_lim m)
  have hmv : Hid (LV (limbs m) = m) := Lib.hid (LV_limbs m)
  generalize limbs m = X at *
  clear hi1 ho1 hg1
  go_loopw [7, 8] (fun rv v wr => ∃ (j r : Nat) (os : List Nat), j ≤ k ∧ r < d ∧ rv = .int .u64 (r : Int) ∧ v = .int .i64 ((j : Int) - 1) ∧ Hid (os.length = k) ∧ Hid (Lim os) ∧ Hid (LV (X.drop j) = d * LV (os.drop j) + r) ∧ Hid (OwSt w φ 117 (some ⟨w.heap.size, 0, none⟩) k os wr)) (fun _ v _ => (intOf v + 1).toNat)
  case atStart => exact ⟨k, 0, List.replicate k 0, Nat.le_refl _, hd0, rfl, rfl, Lib.hid (by simp), Lib.hid (Lim.zeros k), Lib.hid (by rw [LV_drop_ge _ _ (by rw [hk.out]; exact Nat.le_refl _), LV_drop_ge _ _ (by simp)]; rfl), hS0⟩
  case round =>
    clear hS0
    obtain ⟨j, r, os, hj, hr, rfl, rfl, hol, hoL, hinv, hS⟩ := hrel
    by_cases hj0 : j = 0
    · subst hj0
      have hdm : Hid (m / d = LV os ∧ m % d = r) := Lib.hid (by
        have := hinv.out
        rw [List.drop_zero, List.drop_zero, hmv.out] at this
        exact divmod_of hd0 this hr)
      obtain ⟨φ', _, hi, hs, _⟩ := hS.out.own.release hS.out.inv
      have HS' := Lib.hid hs
      have HI' := Lib.hid hi
      clear hi hs
      have hneg : ¬ (0 : Int) ≤ ((0 : Nat) : Int) - 1 := by omega
      obtain ⟨q, hq⟩ : ∃ q, Hid ((limbs (LV os)).length = q) := ⟨_, Lib.hid rfl⟩
      go_wp2_with (go_at_call 152; refine (trim_any HI'.out.fz HS'.out hol (by omega) hoL hq).mono ?_; rintro e w' ⟨rfl, rfl⟩)
      go_ret2
      refine ⟨some ⟨w.heap.size, 0, none⟩, k, φ', ?_, HI'.out, ?_⟩
      · rw [hdm.out.1, hdm.out.2, hq.out]; rfl
      · rw [hdm.out.1]; exact HS'.out.trim hoL.out rfl
    · obtain ⟨b, off, rfl, f⟩ := s.natD hk (k := j - 1) (by omega)
      obtain ⟨_, d1⟩ := f (j - 1) (by omega) wr hS.out.inv.fz
      obtain ⟨x, hx⟩ : ∃ x, Hid (X.getD (j - 1) 0 = x) := ⟨_, Lib.hid rfl⟩
      have hxl : x < 1000000000 := by rw [← hx.out]; exact hLm.out.getD _
      rw [hx.out] at d1
      obtain ⟨g, hga, hgl, fo⟩ := hS.out.own.natD hol (k := j - 1) (by omega)
      cases hga
      obtain ⟨e1, e2, e3⟩ := fo (j - 1) (by omega)
      have hsz : r * 1000000000 + x < d * 1000000000 := by
        have : (r + 1) * 1000000000 ≤ d * 1000000000 := Nat.mul_le_mul_right _ hr
        omega
      have hdl : d * 1000000000 ≤ 1000000000 * 1000000000 := Nat.mul_le_mul_right _ hd1
      obtain ⟨S, hSe⟩ : ∃ S, S = r * 1000000000 + x := ⟨_, rfl⟩
      have hq9 : S / d < 1000000000 := (Nat.div_lt_iff_lt_mul hd0).2 (by rw [hSe]; omega)
      have hr9 : S % d < d := Nat.mod_lt _ hd0
      have hnext : Hid (LV (X.drop (j - 1)) = d * LV ((os.set (j - 1) (S / d)).drop (j - 1)) + S % d) := Lib.hid (by
        rw [LV_set_drop _ (by rw [hol.out]; omega), LV_drop _ _ (by rw [hk.out]; omega), show j - 1 + 1 = j by omega, hinv.out, hx.out, Nat.mul_add, Nat.mul_add, Nat.mul_left_comm lb d]
        have e4 := Nat.div_add_mod S d
        have e5 : lb * r = r * 1000000000 := Nat.mul_comm _ _
        omega)
      have hoN : Hid (Lim (os.set (j - 1) (S / d))) := Lib.hid (hoL.out.set hq9)
      have hst := Lib.hid (e3 (S / d) w φ hS.out.inv)
      have hpos : (0 : Int) ≤ (j : Int) - 1 := by omega
      have hbd : (j : Int) - 1 < k := by omega
      have hto : ((j : Int) - 1).toNat = j - 1 := by omega
      have hSi : (r : Int) * 1000000000 + (x : Int) = (S : Int) := by omega
      have hrs : (r : Int) * 1000000000 ≤ 18446744073709551615 := by omega
      have HSI := Lib.hid hSi
      have hd0i : (1 : Int) ≤ (d : Int) := by omega
      have hS9 : (S : Int) ≤ 18446744073709551615 := by omega
      have ed : ((S / d : Nat) : Int) = (S : Int) / (d : Int) := rfl
      have er : ((S % d : Nat) : Int) = (S : Int) % (d : Int) := rfl
      have ED := Lib.hid (And.intro ed er)
      have HSE := Lib.hid hSe
      have hq1 : IntKind.u64.wrap ((S : Int) / (d : Int)) = ((S / d : Nat) : Int) := by
        rw [← ed]
        exact IntWalk.u64_in _ ⟨Int.natCast_nonneg _, by have := Int.ofNat_le.2 (Nat.le_of_lt hq9); exact Int.le_trans this (by decide)⟩
      have hdz : ((d : Int) == 0) = false := by simp; omega
      have HQ1 := Lib.hid hq1
      clear f fo e3 ed er hSe hsz hdl hq1 hSi
      go_wp2
      rw [HSI.out]
      go_region
      rw [HQ1.out, ← ED.out.2]
      go_wp2
      go_roundw
      case rel => exact ⟨j - 1, S % d, os.set (j - 1) (S / d), by omega, hr9, rfl, by go_num, Lib.hid (by rw [List.length_set]; exact hol.out), hoN, hnext, Lib.hid ⟨hst.out.2.drew, hst.out.1.drew⟩⟩
      case measure => simp [intOf]; omega
theorem LV_set (xs : List Nat) (q : Nat) : ∀ {k : Nat}, k < xs.length → LV (xs.set k q) + lb ^ k * xs.getD k 0 = LV xs + lb ^ k * q := by
  induction xs with
  | nil => intro k hk; simp at hk
  | cons x xs ih =>
    intro k hk
    cases k with
    | zero => simp only [List.set_cons_zero, LV, Nat.pow_zero, Nat.one_mul, List.getD_cons_zero]; omega
    | succ k =>
      have := ih (k := k) (by simpa using hk)
      simp only [List.set_cons_succ, LV, List.getD_cons_succ, Nat.pow_succ]
      have e1 : lb ^ k * lb * xs.getD k 0 = lb * (lb ^ k * xs.getD k 0) := by grind
      have e2 : lb ^ k * lb * q = lb * (lb ^ k * q) := by grind
      have e3 : lb * (LV (xs.set k q) + lb ^ k * xs.getD k 0) = lb * (LV xs + lb ^ k * q) := by rw [this]
      rw [Nat.mul_add, Nat.mul_add] at e3
      rw [e1, e2]
      omega
/-- One step of a row of the product. -/
theorem mul_step {L L' c c' o q s x b V T Q K : Nat} (h1 : L + c * (Q * K) = V + x * T * Q) (h2 : L' + (Q * K) * o = L + (Q * K) * q) (h3 : s = lb * c' + q) (h4 : s = o + c + x * b) : L' + c' * (Q * K * lb) = V + x * (T + K * b) * Q := by
  have h5 : (Q * K) * (lb * c' + q) = (Q * K) * (o + c + x * b) := by rw [← h3, h4]
  grind
end Go.Proofs.YtafcecgcmaoakaaDoor
