/- The walks of trim, magnitude, small, order and compare. Conditions: none beyond what the claim form gives. -/
import Derived.Test.YtafcecgcmaoakaaDoorN1
import Derived.StillTailTactics
namespace Go.Proofs.YtafcecgcmaoakaaDoor
open Go.RowKit
set_option linter.unusedVariables false
def slN : Value → Nat
  | .slice _ n _ => n
  | _ => 0
theorem top_ex (xs : List Nat) : ∀ n, ∃ k, k ≤ n ∧ (∀ i, k ≤ i → i < n → xs.getD i 0 = 0) ∧ (k = 0 ∨ xs.getD (k - 1) 0 ≠ 0)
  | 0 => ⟨0, Nat.le_refl _, fun i _ hi => by omega, .inl rfl⟩
  | n + 1 => by
    by_cases h : xs.getD n 0 = 0
    · obtain ⟨k, h1, h2, h3⟩ := top_ex xs n
      refine ⟨k, by omega, fun i hi hin => ?_, h3⟩
      by_cases e : i = n
      · subst e; exact h
      · exact h2 i hi (by omega)
    · exact ⟨n + 1, Nat.le_refl _, fun i h1 h2 => by omega, .inr (by rw [Nat.add_sub_cancel]; exact h)⟩
theorem trim_take {xs : List Nat} (h : Lim xs) : ∃ k, k ≤ xs.length ∧ limbs (LV xs) = xs.take k := by
  obtain ⟨k, h1, h2, h3⟩ := top_ex xs xs.length
  exact ⟨k, h1, (trim_eq h h1 h2 h3).symm⟩
theorem SlV.trim {φ : Phi} {a : Option Addr} {c : Nat} {xs : List Nat} (s : SlV φ a c xs) (h : Lim xs) {m : Nat} (hm : LV xs = m) : SlV φ a c (limbs m) := by
  subst hm
  obtain ⟨k, _, e⟩ := trim_take h
  rw [e]; exact s.take k
set_option maxHeartbeats 1000000 in
theorem trim_any {n : Nat} {a : Option Addr} {c : Nat} {xs : List Nat} {w : World} {φ : Phi} (hφ : Fz φ w) (s : SlV φ a c xs) (hn : Hid (xs.length = n)) (hm : n ≤ 9000000000000000000) (hl : Hid (Lim xs)) {q : Nat} (hq : Hid ((limbs (LV xs)).length = q)) :
    Calls Tryd.prog 152 #[.slice a n c] w (fun e w' => e = .returned (.slice a q c) ∧ w = w') := by
  have hcap : n ≤ c := by rw [← hn.out]; exact s.capn
  go_enter Tryd.func152, Tryd.ntmps152
  go_wp2
  go_loop [0] (fun v => ∃ k : Nat, k ≤ n ∧ v = .slice a k c ∧ Hid (∀ i, k ≤ i → i < n → xs.getD i 0 = 0)) (fun v => slN v)
  case atStart => exact ⟨n, Nat.le_refl _, rfl, Lib.hid (fun i h1 h2 => by omega)⟩
  case round =>
    obtain ⟨k, hk, rfl, hz⟩ := hrel
    by_cases h0 : k = 0
    · have H0 := Lib.hid h0
      have hk0 : ¬ (0 : Int) < (k : Int) := by omega
      clear h0
      go_wp2
      go_ret
      have := trim_eq hl.out (k := k) (by rw [hn.out]; exact hk) (by rw [hn.out]; exact hz.out) (.inl H0.out)
      exact ⟨by rw [← hq.out, ← this, List.length_take, hn.out, Nat.min_eq_left hk]; rfl, rfl⟩
    · obtain ⟨b, off, rfl, f⟩ := s.natD hn (k := k - 1) (by omega)
      obtain ⟨hb, c1⟩ := f (k - 1) (by omega) w hφ
      obtain ⟨x, hx⟩ : ∃ x, Hid (xs.getD (k - 1) 0 = x) := ⟨_, Lib.hid rfl⟩
      rw [hx.out] at c1
      have hk0 : (0 : Int) < (k : Int) := by omega
      have hto : ((k : Int) - 1).toNat = k - 1 := by omega
      have hix : 0 ≤ (k : Int) - 1 := by omega
      have hix2 : (k : Int) - 1 < k := by omega
      have hlt : Hid (∀ i, k - 1 ≤ i → i < n → x = 0 → xs.getD i 0 = 0) := Lib.hid (fun i h1 h2 h3 => by
        by_cases e : i = k - 1
        · subst e; rw [hx.out, h3]
        · exact hz.out i (by omega) h2)
      clear f
      by_cases hx0 : x = 0
      · subst hx0
        go_wp2
        go_round
        case rel => exact ⟨k - 1, by omega, by go_num, Lib.hid (fun i h1 h2 => hlt.out i h1 h2 rfl)⟩
        case measure => simp [slN]; omega
      · have hne : ((x : Int) == 0) = false := by simp [hx0]
        have HX0 := Lib.hid hx0
        clear hx0
        go_wp2
        go_ret
        have := trim_eq hl.out (k := k) (by rw [hn.out]; exact hk) (by rw [hn.out]; exact hz.out) (.inr (by rw [hx.out]; exact HX0.out))
        exact ⟨by rw [← hq.out, ← this, List.length_take, hn.out, Nat.min_eq_left hk]; rfl, rfl⟩
theorem magnitude_any (n : Int) (h0 : -9223372036854775808 ≤ n) (h1 : n ≤ 9223372036854775807) (w : World) :
    Calls Tryd.prog 78 #[.int .i64 n] w (fun e w' => e = .returned (.int .u64 (n.natAbs : Int)) ∧ w = w') := by
  go_enter Tryd.func78, Tryd.ntmps78
  by_cases h : n < 0
  · go_wp2
    go_ret
    exact ⟨ret_int (by rw [IntKind.wrap_u64, IntKind.wrap_u64]; omega), rfl⟩
  · go_wp2
    go_ret
    exact ⟨ret_int (by omega), rfl⟩
theorem slNat : SliceTy Tryd.prog 115 117 (.int .u64 0) (Rep.size Nat) 8 := ⟨Tryd.underlying115, by kernel_rfl, rfl, by decide, by decide⟩
set_option maxHeartbeats 1000000 in
theorem small_any (m : Nat) (hm : m < 18446744073709551616) (w : World) (φ : Phi) (hφ : Fz φ w) :
    Calls Tryd.prog 77 #[.int .u64 (m : Int)] w (SlPost1 (limbs m) φ w) := by
  have hS0 : Hid (OwSt w φ 117 none 0 ([] : List Nat) w) := Lib.hid ⟨Inv.start hφ, Own.nil _ _ _ _⟩
  have hl3 : Hid ((limbs m).length ≤ 3) := Lib.hid (limbs_le (by
    have : lb ^ 3 = 1000000000000000000000000000 := by decide
    omega))
  go_enter Tryd.func77, Tryd.ntmps77
  go_wp2
  go_loopw [3, 0] (fun o v wr => ∃ (r : Nat) (ao : Option Addr) (co : Nat) (ds : List Nat), r < 18446744073709551616 ∧ v = .int .u64 (r : Int) ∧ o = .slice ao ds.length co ∧ Hid (limbs m = ds ++ limbs r) ∧ Hid (OwSt w φ 117 ao co ds wr)) (fun _ v _ => (intOf v).toNat)
  case atStart => exact ⟨m, none, 0, [], hm, rfl, rfl, Lib.hid rfl, hS0⟩
  case round =>
    clear hS0
    obtain ⟨r, ao, co, ds, hr, rfl, rfl, hd, hS⟩ := hrel
    by_cases h0 : r = 0
    · subst h0
      have e : Hid (limbs m = ds) := Lib.hid (by rw [hd.out, limbs_zero, List.append_nil])
      go_wp2
      go_ret
      obtain ⟨φ', _, hi, hs, _⟩ := hS.out.own.release hS.out.inv
      rw [e.out]
      exact ⟨ao, co, φ', rfl, hi, hs⟩
    · have hr0 : (0 : Int) < (r : Int) := by omega
      have hd2 : Hid (limbs m = (ds ++ [r % lb]) ++ limbs (r / lb)) := Lib.hid (by rw [hd.out, limbs_pos h0]; simp)
      have hdl : ds.length ≤ 3 := by
        have := hl3.out
        rw [hd.out, List.length_append] at this
        omega
      have hin := Lib.hid hS.out.inv
      have hon := Lib.hid hS.out.own
      have em : ((r % lb : Nat) : Int) = (r : Int) % 1000000000 := rfl
      have ed : ((r / lb : Nat) : Int) = (r : Int) / 1000000000 := rfl
      have EM := Lib.hid em
      have ED := Lib.hid ed
      have hlt : r / lb < r := Nat.div_lt_self (by omega) lb_gt
      clear em ed
      go_wp2_with (at_builtin; (refine wpList_app1F (α := Nat) rfl _ _ 115 rfl slNat hin.out ao co _ hon.out _ _ (r % lb) (by show [Value.int .u64 ((r : Int) % 1000000000)] = [Value.int .u64 ((r % lb : Nat) : Int)]; rw [EM.out]) rfl 1 rfl (by omega) ?_; intro a8 c8 w8 hi8 ho8 hg8 hf8))
      go_roundw
      case rel => exact ⟨r / lb, a8, c8, ds ++ [r % lb], by omega, by rw [ED.out], by simp, hd2, Lib.hid ⟨hi8, ho8⟩⟩
      case measure =>
        show (intOf (.int .u64 ((r : Int) / 1000000000))).toNat < (intOf (.int .u64 (r : Int))).toNat
        rw [← ED.out]
        simp only [intOf]
        omega
theorem order_any (x y : Int) (w : World) :
    Calls Tryd.prog 162 #[.int .i64 x, .int .i64 y] w (fun e w' => e = .returned (.int .i64 (if x < y then -1 else if y < x then 1 else 0)) ∧ w = w') := by
  go_enter Tryd.func162, Tryd.ntmps162
  by_cases h1 : x < y
  · go_wp2
    go_ret
    exact ⟨rfl, rfl⟩
  · by_cases h2 : y < x
    · go_wp2
      go_ret
      exact ⟨rfl, rfl⟩
    · go_wp2
      go_ret
      exact ⟨rfl, rfl⟩
/-- -1, 0 or 1. -/
def cmpN (m n : Nat) : Int := if m < n then -1 else if n < m then 1 else 0
theorem cmp_len {m n : Nat} (h : (limbs m).length < (limbs n).length) : m < n := by
  rcases Nat.lt_or_ge m n with q | q
  · exact q
  · have := limbs_mono q; omega
/-- The highest limb that differs decides. -/
theorem cmp_at {xs ys : List Nat} (hx : Lim xs) (hl : xs.length = ys.length) {k : Nat} (hk : k < xs.length) (hz : ∀ i, k < i → i < xs.length → xs.getD i 0 = ys.getD i 0) (h : xs.getD k 0 < ys.getD k 0) : LV xs < LV ys := by
  have key : ∀ j, k + 1 + j ≤ xs.length → LV (xs.drop (xs.length - j)) = LV (ys.drop (xs.length - j)) := by
    intro j
    induction j with
    | zero => intro _; rw [Nat.sub_zero, LV_drop_ge _ _ (Nat.le_refl _), LV_drop_ge _ _ (by omega)]
    | succ j ih =>
      intro hj
      rw [LV_drop _ _ (by omega), LV_drop ys _ (by omega), show xs.length - (j + 1) + 1 = xs.length - j by omega, ih (by omega), hz _ (by omega) (by omega)]
  have e := key (xs.length - (k + 1)) (by omega)
  rw [show xs.length - (xs.length - (k + 1)) = k + 1 by omega] at e
  rw [LV_take_drop xs (k + 1) (by omega), LV_take_drop ys (k + 1) (by omega), e, LV_take, LV_take]
  have h1 := LV_lt (hx.take k)
  rw [List.length_take, Nat.min_eq_left (by omega)] at h1
  have h2 : lb ^ k * (xs.getD k 0 + 1) ≤ lb ^ k * ys.getD k 0 := Nat.mul_le_mul_left _ h
  rw [Nat.mul_add, Nat.mul_one] at h2
  omega
set_option maxHeartbeats 1000000 in
theorem compare_any {m n k1 k2 : Nat} {a1 a2 : Option Addr} {c1 c2 : Nat} {w : World} {φ : Phi} (hφ : Fz φ w) (s1 : SlV φ a1 c1 (limbs m)) (s2 : SlV φ a2 c2 (limbs n)) (h1 : Hid ((limbs m).length = k1)) (h2 : Hid ((limbs n).length = k2)) (hk1 : k1 ≤ 4000000000) (hk2 : k2 ≤ 4000000000) {q : Int} (hq : Hid (cmpN m n = q)) :
    Calls Tryd.prog 148 #[.slice a1 k1 c1, .slice a2 k2 c2] w (fun e w' => e = .returned (.int .i64 q) ∧ Below w.heap.size w w') := by
  go_enter Tryd.func148, Tryd.ntmps148
  by_cases hl : k1 = k2
  case neg =>
    have hv : ∃ v : Int, (if (k1 : Int) < k2 then -1 else if (k2 : Int) < k1 then 1 else 0) = v ∧ v ≠ 0 ∧ q = v := by
      by_cases hlt : k1 < k2
      · refine ⟨-1, by rw [if_pos (by omega)], by decide, ?_⟩
        have := cmp_len (m := m) (n := n) (by rw [h1.out, h2.out]; exact hlt)
        rw [← hq.out, cmpN, if_pos this]
      · refine ⟨1, by rw [if_neg (by omega), if_pos (by omega)], by decide, ?_⟩
        have := cmp_len (m := n) (n := m) (by rw [h1.out, h2.out]; omega)
        rw [← hq.out, cmpN, if_neg (by omega), if_pos this]
    obtain ⟨v, hv1, hv2, rfl⟩ := hv
    have hg : ((q : Int) != 0) = true := by simp [hv2]
    have HV := Lib.hid hv1
    have HQ := Lib.hid hv2
    clear hv1 hv2
    go_wp2_with (go_at_call 162; refine (order_any _ _ _).mono ?_; rintro e w' ⟨rfl, rfl⟩; rw [HV.out])
    go_ret
    exact ⟨rfl, Below.refl _ _⟩
  subst hl
  have hv1 : Hid ((if (k1 : Int) < k1 then (-1 : Int) else if (k1 : Int) < k1 then 1 else 0) = 0) := Lib.hid (by simp)
  go_wp2_with (go_at_call 162; refine (order_any _ _ _).mono ?_; rintro e w' ⟨rfl, rfl⟩; rw [hv1.out])
  have hLx := Lib.hid (limbs_lim m)
  have hLy := Lib.hid (limbs_lim n)
  have hcmp := Lib.hid (fun k hk hz h => cmp_at (xs := limbs m) (ys := limbs n) (limbs_lim m) (by rw [h1.out, h2.out]) (k := k) hk hz h)
  have hcmp2 := Lib.hid (fun k hk hz h => cmp_at (xs := limbs n) (ys := limbs m) (limbs_lim n) (by rw [h1.out, h2.out]) (k := k) hk hz h)
  have heq : Hid ((∀ i, i < k1 → (limbs m).getD i 0 = (limbs n).getD i 0) → q = 0) := Lib.hid (fun h => by
    have e : limbs m = limbs n := by
      apply List.ext_getElem (by rw [h1.out, h2.out])
      intro i h3 h4
      rw [← getD_elem0 0 _ _ h3, ← getD_elem0 0 _ _ h4]
      exact h i (by rw [← h1.out]; exact h3)
    have e2 : m = n := by rw [← LV_limbs m, e, LV_limbs]
    rw [← hq.out, cmpN, e2, if_neg (by omega), if_neg (by omega)])
  rw [LV_limbs, LV_limbs] at hcmp hcmp2
  generalize limbs m = X at *
  generalize limbs n = Y at *
  go_loopw [6] (fun v wr => ∃ j : Nat, j ≤ k1 ∧ v = .int .i64 ((j : Int) - 1) ∧ Hid (∀ i, j ≤ i → i < k1 → X.getD i 0 = Y.getD i 0) ∧ Hid (Below w.heap.size w wr)) (fun v _ => (intOf v + 1).toNat)
  case atStart => exact ⟨k1, Nat.le_refl _, rfl, Lib.hid (fun i h3 h4 => by omega), Lib.hid (Below.refl _ _)⟩
  case round =>
    obtain ⟨j, hj, rfl, hz, hB⟩ := hrel
    by_cases hj0 : j = 0
    · have e0 : q = 0 := heq.out (fun i hi => hz.out i (by omega) hi)
      subst e0
      have hneg : ¬ (0 : Int) ≤ (j : Int) - 1 := by omega
      go_wp2
      go_ret
      exact ⟨rfl, hB.out⟩
    · obtain ⟨b1, o1, rfl, f1⟩ := s1.natD h1 (k := j - 1) (by omega)
      obtain ⟨b2, o2, rfl, f2⟩ := s2.natD h2 (k := j - 1) (by omega)
      obtain ⟨_, d1⟩ := f1 (j - 1) (by omega) wr (hφ.below hB.out)
      obtain ⟨_, d2⟩ := f2 (j - 1) (by omega) wr (hφ.below hB.out)
      have hlt1 := Lib.hid (hcmp.out (j - 1) (by rw [h1.out]; omega) (fun i h3 h4 => hz.out i (by omega) (by rw [← h1.out]; exact h4)))
      have hlt2 := Lib.hid (hcmp2.out (j - 1) (by rw [h2.out]; omega) (fun i h3 h4 => (hz.out i (by omega) (by rw [← h2.out]; exact h4)).symm))
      obtain ⟨x, hx⟩ : ∃ x, Hid (X.getD (j - 1) 0 = x) := ⟨_, Lib.hid rfl⟩
      obtain ⟨y, hy⟩ : ∃ y, Hid (Y.getD (j - 1) 0 = y) := ⟨_, Lib.hid rfl⟩
      have hnx : Hid (x = y → ∀ i, j - 1 ≤ i → i < k1 → X.getD i 0 = Y.getD i 0) := Lib.hid (fun e i h3 h4 => by
        by_cases e2 : i = j - 1
        · subst e2; rw [hx.out, hy.out, e]
        · exact hz.out i (by omega) h4)
      rw [hx.out] at d1
      rw [hy.out] at d2
      rw [hx.out, hy.out] at hlt1 hlt2
      have hpos : (0 : Int) ≤ (j : Int) - 1 := by omega
      have hbd : (j : Int) - 1 < k1 := by omega
      have hto : ((j : Int) - 1).toNat = j - 1 := by omega
      clear f1 f2
      by_cases hxy : x < y
      · have hq1 : q = -1 := by rw [← hq.out, cmpN, if_pos (hlt1.out hxy)]
        subst hq1
        have hxi : (x : Int) < (y : Int) := by omega
        go_wp2
        go_quiet (fail)
        clear hto
        go_wp2
        go_ret
        exact ⟨rfl, bdrewN hB.out _⟩
      · by_cases hyx : y < x
        · have hq1 : q = 1 := by
            have := hlt2.out hyx
            rw [← hq.out, cmpN, if_neg (by omega), if_pos this]
          subst hq1
          have hxi : ¬ (x : Int) < (y : Int) := by omega
          have hyi : (y : Int) < (x : Int) := by omega
          go_wp2
          go_quiet (fail)
          go_wp2
          go_quiet (fail)
          clear hto
          go_wp2
          go_ret
          exact ⟨rfl, bdrewN (bdrewN hB.out _) _⟩
        · have hxi : ¬ (x : Int) < (y : Int) := by omega
          have hyi : ¬ (y : Int) < (x : Int) := by omega
          go_wp2
          go_quiet (fail)
          go_wp2
          go_quiet (fail)
          go_wp2
          go_roundw
          case rel => exact ⟨j - 1, by omega, by go_num, Lib.hid (hnx.out (by omega)), by first | exact Lib.hid (bdrewN (bdrewN hB.out _) _) | exact Lib.hid (bdrewN hB.out _)⟩
          case measure => simp [intOf]; omega
end Go.Proofs.YtafcecgcmaoakaaDoor
