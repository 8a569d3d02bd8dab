/- The reference's natural numbers: the walks of short, times and plus. Conditions: none beyond what the claim form gives. -/
import Derived.Test.YtmlpjffnmkndoaaGreatDoorB1
namespace Go.Proofs.YtmlpjffnmkndoaaGreatDoor
open Go.RowKit
set_option linter.unusedVariables false
set_option linter.unusedSimpArgs false
set_option maxRecDepth 100000 in
set_option maxHeartbeats 2000000 in
theorem Rshort_any {m k d : Nat} {a : Option Addr} {c : Nat} {w : World} {φ : Phi} (hφ : Fz φ w) (s : SlV φ a c (limbs m)) (hk : Hid ((limbs m).length = k)) (hk4 : k ≤ 4000000000) (hd0 : 0 < d) (hd1 : d ≤ 1000000000) :
  Calls Tryz.prog 142 #[.slice a k c, .int .i64 (d : Int)] w (NatVI (m / d) (.int .i64 ((m % d : Nat) : Int)) φ w) := by
 have hI := Lib.hid (Inv.start hφ)
 go_enter Tryz.func142, Tryz.ntmps142
 go_wp2_with (at_make; (refine wpList_mkn (α := Nat) rfl _ _ 34 rfl slNatI hI.out _ _ k 0 (fun _ => rfl) rfl rfl rfl (by omega) ?_; intro w1 hi1 ho1 hg1))
 have hS0 : Hid (OwSt w φ 3 (some ⟨w.heap.size, 0, none⟩) k (List.replicate k 0) w1) := Lib.hid ⟨hi1, ho1⟩
 have hLm : Hid (Lim (limbs m)) := Lib.hid (limbs_lim m)
 have hmv : Hid (LV (limbs m) = m) := Lib.hid (LV_limbs m)
 generalize limbs m = X at *
 clear hi1 ho1 hg1
 go_loopw [7, 8] (fun rv v wr => ∃ (j r : Nat) (os : List Nat), j ≤ k ∧ r < d ∧ rv = .int .i64 (r : Int) ∧ v = .int .i64 ((j : Int) - 1) ∧ Hid (os.length = k) ∧ Hid (Lim os) ∧ Hid (LV (X.drop j) = d * LV (os.drop j) + r) ∧ Hid (OwSt w φ 3 (some ⟨w.heap.size, 0, none⟩) k os wr)) (fun _ v _ => (intOf v + 1).toNat)
 case atStart => exact ⟨k, 0, List.replicate k 0, Nat.le_refl _, hd0, rfl, rfl, Lib.hid (by simp), Lib.hid (Lim.zeros k), Lib.hid (by rw [LV_drop_ge _ _ (by rw [hk.out]; exact Nat.le_refl _), LV_drop_ge _ _ (by simp)]; rfl), hS0⟩
 case round =>
  clear hS0
  obtain ⟨j, r, os, hj, hr, rfl, rfl, hol, hoL, hinv, hS⟩ := hrel
  by_cases hj0 : j = 0
  ·subst hj0
   have hdm : Hid (m / d = LV os ∧ m % d = r) := Lib.hid (by
    have := hinv.out
    rw [List.drop_zero, List.drop_zero, hmv.out] at this
    exact divmod_of hd0 this hr)
   obtain ⟨φ', _, hi, hs, _⟩ := hS.out.own.release hS.out.inv
   have HS' := Lib.hid hs
   have HI' := Lib.hid hi
   clear hi hs
   have hneg : ¬ (0 : Int) ≤ ((0 : Nat) : Int) - 1 := by omega
   obtain ⟨q, hq⟩ : ∃ q, Hid ((limbs (LV os)).length = q) := ⟨_, Lib.hid rfl⟩
   go_wp2_with (go_at_call 102; refine (Rtrim_any HI'.out.fz HS'.out hol (by omega) hoL hq).mono ?_; rintro e w' ⟨rfl, rfl⟩)
   go_ret2
   refine ⟨some ⟨w.heap.size, 0, none⟩, k, φ', ?_, HI'.out, ?_⟩
   ·rw [hdm.out.1, hdm.out.2, hq.out]; rfl
   ·rw [hdm.out.1]; exact HS'.out.trimI hoL.out rfl
  ·obtain ⟨b, off, rfl, f⟩ := s.natI hk (k := j - 1) (by omega)
   obtain ⟨_, d1⟩ := f (j - 1) (by omega) wr hS.out.inv.fz
   obtain ⟨x, hx⟩ : ∃ x, Hid (X.getD (j - 1) 0 = x) := ⟨_, Lib.hid rfl⟩
   have hxl : x < 1000000000 := by rw [← hx.out]; exact hLm.out.getD _
   rw [hx.out] at d1
   obtain ⟨g, hga, hgl, fo⟩ := hS.out.own.natI hol (k := j - 1) (by omega)
   cases hga
   obtain ⟨e1, e2, e3⟩ := fo (j - 1) (by omega)
   have hsz : r * 1000000000 + x < d * 1000000000 := by
    have : (r + 1) * 1000000000 ≤ d * 1000000000 := Nat.mul_le_mul_right _ hr
    omega
   have hdl : d * 1000000000 ≤ 1000000000 * 1000000000 := Nat.mul_le_mul_right _ hd1
   obtain ⟨S, hSe⟩ : ∃ S, S = r * 1000000000 + x := ⟨_, rfl⟩
   have hq9 : S / d < 1000000000 := (Nat.div_lt_iff_lt_mul hd0).2 (by rw [hSe]; omega)
   have hr9 : S % d < d := Nat.mod_lt _ hd0
   have hnext : Hid (LV (X.drop (j - 1)) = d * LV ((os.set (j - 1) (S / d)).drop (j - 1)) + S % d) := Lib.hid (by
    rw [LV_set_drop _ (by rw [hol.out]; omega), LV_drop _ _ (by rw [hk.out]; omega), show j - 1 + 1 = j by omega, hinv.out, hx.out, Nat.mul_add, Nat.mul_add, Nat.mul_left_comm lb d]
    have e4 := Nat.div_add_mod S d
    have e5 : lb * r = r * 1000000000 := Nat.mul_comm _ _
    omega)
   have hoN : Hid (Lim (os.set (j - 1) (S / d))) := Lib.hid (hoL.out.set hq9)
   have hst := Lib.hid (e3 (S / d) w φ hS.out.inv)
   have hpos : (0 : Int) ≤ (j : Int) - 1 := by omega
   have hbd : (j : Int) - 1 < k := by omega
   have hto : ((j : Int) - 1).toNat = j - 1 := by omega
   have hSi : (r : Int) * 1000000000 + (x : Int) = (S : Int) := by omega
   have hrs : (r : Int) * 1000000000 ≤ 18446744073709551615 := by omega
   have HSI := Lib.hid hSi
   have hd0i : (1 : Int) ≤ (d : Int) := by omega
   have hS9 : (S : Int) ≤ 18446744073709551615 := by omega
   have ed : ((S / d : Nat) : Int) = (S : Int) / (d : Int) := rfl
   have er : ((S % d : Nat) : Int) = (S : Int) % (d : Int) := rfl
   have ED := Lib.hid (And.intro ed er)
   have HSE := Lib.hid hSe
   have hq1 : IntKind.i64.wrap ((S : Int) / (d : Int)) = ((S / d : Nat) : Int) := by
    rw [← ed]
    exact IntWalk.i64_in _ ⟨Int.natCast_nonneg _, by have := Int.ofNat_le.2 (Nat.le_of_lt hq9); exact Int.le_trans this (by decide)⟩
   have hdz : ((d : Int) == 0) = false := by simp; omega
   have HQ1 := Lib.hid hq1
   clear f fo e3 ed er hSe hsz hdl hq1 hSi
   go_wp2
   rw [HSI.out]
   rw [← ED.out.2]
   go_roundw
   case rel => exact ⟨j - 1, S % d, os.set (j - 1) (S / d), by omega, hr9, rfl, by go_num, Lib.hid (by rw [List.length_set]; exact hol.out), hoN, hnext, Lib.hid ⟨hst.out.2, hst.out.1⟩⟩
   case measure => simp [intOf]; omega
set_option maxRecDepth 100000 in
set_option maxHeartbeats 4000000 in
theorem Rtimes_any {m n na nb : Nat} {a b : Option Addr} {ca cb : Nat} {w : World} {φ : Phi} (hφ : Fz φ w) (sa : SlV φ a ca (limbs m)) (sb : SlV φ b cb (limbs n)) (hna : Hid ((limbs m).length = na)) (hnb : Hid ((limbs n).length = nb)) (h4a : na ≤ 2000000000) (h4b : nb ≤ 2000000000) :
  Calls Tryz.prog 81 #[.slice a na ca, .slice b nb cb] w (NatI (m * n) φ w) := by
 have hI := Lib.hid (Inv.start hφ)
 have hsum : Hid ((na : Int) + (nb : Int) + 1 = ((na + nb + 1 : Nat) : Int)) := Lib.hid (by omega)
 go_enter Tryz.func81, Tryz.ntmps81
 go_wp2_with (at_make; (refine wpList_mkn (α := Nat) rfl _ _ 34 rfl slNatI hI.out _ _ (na + nb + 1) 0 (fun _ => rfl) rfl rfl rfl (by omega) ?_; intro w1 hi1 ho1 hg1))
 have hS0 : Hid (OwSt w φ 3 (some ⟨w.heap.size, 0, none⟩) (na + nb + 1) (List.replicate (na + nb + 1) 0) w1) := Lib.hid ⟨hi1, ho1⟩
 have hLa : Hid (Lim (limbs m)) := Lib.hid (limbs_lim m)
 have hLb : Hid (Lim (limbs n)) := Lib.hid (limbs_lim n)
 have hma : Hid (LV (limbs m) = m) := Lib.hid (LV_limbs m)
 have hmb : Hid (LV (limbs n) = n) := Lib.hid (LV_limbs n)
 have hbL : Hid (n < lb ^ nb) := Lib.hid (by rw [← hnb.out]; exact limbs_lt n)
 generalize limbs m = A at *
 generalize limbs n = B at *
 obtain ⟨N, hN⟩ : ∃ N, Hid (na + nb + 1 = N) := ⟨_, Lib.hid rfl⟩
 have hN4 : N ≤ 4000000001 := by rw [← hN.out]; omega
 rw [hN.out] at hS0 ⊢
 clear hi1 ho1 hg1
 go_loopw [19] (fun v wr => ∃ (i : Nat) (os : List Nat), i ≤ na ∧ v = .int .i64 (i : Int) ∧ Hid (os.length = N) ∧ Hid (Lim os) ∧ Hid (LV os = LV (A.take i) * n) ∧ Hid (OwSt w φ 3 (some ⟨w.heap.size, 0, none⟩) N os wr)) (fun v _ => na - (intOf v).toNat)
 case atStart => exact ⟨0, List.replicate N 0, Nat.zero_le _, rfl, Lib.hid (by simp), Lib.hid (Lim.zeros N), Lib.hid (by rw [List.take_zero, LV, Nat.zero_mul, LV_zeros]), hS0⟩
 case round =>
  clear hS0
  obtain ⟨i, os, hi, rfl, hol, hoL, hov, hS⟩ := hrel
  by_cases hlt : i < na
  ·obtain ⟨ba, oa, rfl, f⟩ := sa.natI hna hlt
   obtain ⟨_, d1⟩ := f i hlt wr hS.out.inv.fz
   obtain ⟨x, hx⟩ : ∃ x, Hid (A.getD i 0 = x) := ⟨_, Lib.hid rfl⟩
   have hxl : x < 1000000000 := by rw [← hx.out]; exact hLa.out.getD _
   rw [hx.out] at d1
   have htk : Hid (LV (A.take (i + 1)) = LV (A.take i) + lb ^ i * x) := Lib.hid (by rw [LV_take, hx.out])
   have hAi : Hid (LV (A.take i) < lb ^ i) := Lib.hid (by have := LV_lt (hLa.out.take i); rwa [List.length_take, Nat.min_eq_left (by rw [hna.out]; omega)] at this)
   have hA := Lib.hid (fun w (hw : Fz φ w) => (f i hlt w hw).2)
   have hil : (i : Int) < (na : Int) := by omega
   clear f d1
   go_wp2
   go_loopw [7, 8] (fun cv kv wi => ∃ (c k : Nat) (os' : List Nat), k ≤ nb + 1 ∧ c < 1000000000 ∧ (k = nb + 1 → c = 0) ∧ cv = .int .i64 (c : Int) ∧ kv = .int .i64 (k : Int) ∧ Hid (os'.length = N) ∧ Hid (Lim os') ∧ Hid (LV os' + c * (lb ^ i * lb ^ k) = LV os + x * LV (B.take k) * lb ^ i) ∧ Hid (OwSt w φ 3 (some ⟨w.heap.size, 0, none⟩) N os' wi)) (fun _ kv _ => nb + 1 - (intOf kv).toNat)
   case atStart => exact ⟨0, 0, os, by omega, by omega, fun h => by omega, rfl, rfl, hol, hoL, Lib.hid (by simp [LV]), hS⟩
   case round =>
    clear hS
    obtain ⟨c, k, os', hk, hc, hkc, rfl, rfl, hol', hoL', hinv, hSi⟩ := hrel
    rename World => wi
    have d1 := hA.out wi hSi.out.inv.fz
    rw [hx.out] at d1
    by_cases hend : ¬ k < nb ∧ c = 0
    ·obtain ⟨hkn, rfl⟩ := hend
     have hkn2 : ¬ (k : Int) < (nb : Int) := by omega
     have hout : Hid (LV os' = LV (A.take (i + 1)) * n) := Lib.hid (by
      have h := hinv.out
      rw [Nat.zero_mul, Nat.add_zero, List.take_of_length_le (by rw [hnb.out]; omega), hmb.out, hov.out] at h
      rw [h, htk.out]; grind)
     go_wp2
     go_roundw
     case rel => exact ⟨i + 1, os', by omega, by go_num, hol', hoL', hout, hSi⟩
     case measure => (simp [intOf] <;> omega)
    ·have hki : k ≤ nb := by
      rcases Nat.lt_or_ge k nb with q | q
      ·omega
      ·have hc0 : 0 < c := by omega
       have h := hinv.out
       rw [List.take_of_length_le (by rw [hnb.out]; omega), hmb.out, ← Nat.pow_add] at h
       exact carry_bd h hov.out hAi.out hbL.out hxl hc0
     have hin : i + k < N := by
      rcases Nat.lt_or_ge k nb with q | q
      ·rw [← hN.out]; omega
      ·rw [← hN.out]; omega
     obtain ⟨g, hga, hgl, fo⟩ := hSi.out.own.natI hol' hin
     cases hga
     obtain ⟨e1, e2, e3⟩ := fo (i + k) hin
     obtain ⟨o, ho⟩ : ∃ o, Hid (os'.getD (i + k) 0 = o) := ⟨_, Lib.hid rfl⟩
     have hoo : o < 1000000000 := by rw [← ho.out]; exact hoL'.out.getD _
     rw [ho.out] at e1
     have hset := Lib.hid (fun q => LV_set os' q (k := i + k) (by rw [hol'.out]; exact hin))
     rw [ho.out, Nat.pow_add] at hset
     have E3 := Lib.hid e3
     have hw1 : IntKind.i64.wrap ((i : Int) + (k : Int)) = ((i + k : Nat) : Int) := by rw [IntWalk.i64_in _ (by omega)]; omega
     have hii : (i : Int) + (k : Int) = ((i + k : Nat) : Int) := by omega
     have hto : ((i : Int) + (k : Int)).toNat = i + k := by omega
     have hb1 : (i : Int) + (k : Int) < (N : Int) := by omega
     have hb0 : (0 : Int) ≤ (i : Int) + (k : Int) := by omega
     clear e3 fo hw1 hii
     by_cases hkn : k < nb
     ·obtain ⟨bb, ob, rfl, f2⟩ := sb.natI hnb hkn
      obtain ⟨_, d2⟩ := f2 k hkn wi hSi.out.inv.fz
      obtain ⟨y, hy⟩ : ∃ y, Hid (B.getD k 0 = y) := ⟨_, Lib.hid rfl⟩
      have hyl : y < 1000000000 := by rw [← hy.out]; exact hLb.out.getD _
      rw [hy.out] at d2
      obtain ⟨p, hp⟩ : ∃ p, p = x * y := ⟨_, rfl⟩
      have hpl : p ≤ 999999999 * 999999999 := by rw [hp]; exact Nat.mul_le_mul (by omega) (by omega)
      have hpi : (x : Int) * (y : Int) = (p : Int) := by rw [hp]; exact (Int.natCast_mul x y).symm
      obtain ⟨S, hSe⟩ : ∃ S, Hid (S = o + c + p) := ⟨_, Lib.hid rfl⟩
      have hSl : o + c + p < 1000000000 * 1000000000 := by omega
      have hSm : Hid (((o : Int) + (c : Int) + (p : Int)) % 1000000000 = ((S % lb : Nat) : Int)) := Lib.hid (by rw [hSe.out]; exact (Int.natCast_emod (o + c + p) lb).symm ▸ rfl)
      have hSd : Hid (((o : Int) + (c : Int) + (p : Int)) / 1000000000 = ((S / lb : Nat) : Int)) := Lib.hid (by rw [hSe.out]; exact (Int.natCast_ediv (o + c + p) lb).symm ▸ rfl)
      have hc9 : S / lb < 1000000000 := (Nat.div_lt_iff_lt_mul lb_pos).2 (by rw [hSe.out]; exact hSl)
      have hq9 : S % lb < lb := Nat.mod_lt _ lb_pos
      have hnext : Hid (LV (os'.set (i + k) (S % lb)) + S / lb * (lb ^ i * lb ^ (k + 1)) = LV os + x * LV (B.take (k + 1)) * lb ^ i) := Lib.hid (by
       have h5 := mul_step (K := lb ^ k) (Q := lb ^ i) (T := LV (B.take k)) (b := y) (s := S) (c' := S / lb) (q := S % lb) (o := o) (by rw [hinv.out]) (hset.out (S % lb)) (by rw [Nat.div_add_mod]) (by rw [hSe.out, hp])
       have h6 : lb ^ i * lb ^ (k + 1) = lb ^ i * lb ^ k * lb := by rw [Nat.pow_succ, Nat.mul_assoc]
       rw [LV_take, hy.out, h6]
       exact h5)
      have hst := Lib.hid (E3.out (S % lb) w φ hSi.out.inv)
      have hki2 : (k : Int) < (nb : Int) := by omega
      clear hp f2
      go_wp2
      go_quiet (fail)
      go_wp2
      rw [hSm.out, hSd.out]
      go_roundw
      case rel => exact ⟨S / lb, k + 1, os'.set (i + k) (S % lb), by omega, hc9, fun h => by omega, rfl, by go_num, Lib.hid (by rw [List.length_set]; exact hol'.out), Lib.hid (hoL'.out.set hq9), hnext, Lib.hid ⟨hst.out.2.drewN _, hst.out.1.drewN _⟩⟩
      case measure => (simp [intOf] <;> omega)
     ·have hkn2 : ¬ (k : Int) < (nb : Int) := by omega
      have hc0 : 0 < c := by omega
      have hc0i : (0 : Int) < (c : Int) := by omega
      obtain ⟨S, hSe⟩ : ∃ S, Hid (S = o + c) := ⟨_, Lib.hid rfl⟩
      have hSl : o + c < 1000000000 * 1000000000 := by omega
      have hSm : Hid (((o : Int) + (c : Int)) % 1000000000 = ((S % lb : Nat) : Int)) := Lib.hid (by rw [hSe.out]; exact (Int.natCast_emod (o + c) lb).symm ▸ rfl)
      have hSd : Hid (((o : Int) + (c : Int)) / 1000000000 = ((S / lb : Nat) : Int)) := Lib.hid (by rw [hSe.out]; exact (Int.natCast_ediv (o + c) lb).symm ▸ rfl)
      have hc9 : S / lb < 1000000000 := (Nat.div_lt_iff_lt_mul lb_pos).2 (by rw [hSe.out]; exact hSl)
      have hq9 : S % lb < lb := Nat.mod_lt _ lb_pos
      have hB0 : Hid (LV (B.take (k + 1)) = LV (B.take k)) := Lib.hid (by rw [List.take_of_length_le (by rw [hnb.out]; omega), List.take_of_length_le (by rw [hnb.out]; omega)])
      have hnext : Hid (LV (os'.set (i + k) (S % lb)) + S / lb * (lb ^ i * lb ^ (k + 1)) = LV os + x * LV (B.take (k + 1)) * lb ^ i) := Lib.hid (by
       have h5 := mul_step (K := lb ^ k) (Q := lb ^ i) (T := LV (B.take k)) (b := 0) (s := S) (c' := S / lb) (q := S % lb) (o := o) (by rw [hinv.out]) (hset.out (S % lb)) (by rw [Nat.div_add_mod]) (by rw [hSe.out, Nat.mul_zero, Nat.add_zero])
       have h6 : lb ^ i * lb ^ (k + 1) = lb ^ i * lb ^ k * lb := by rw [Nat.pow_succ, Nat.mul_assoc]
       rw [hB0.out, h6]
       rw [Nat.mul_zero, Nat.add_zero] at h5
       exact h5)
      have hst := Lib.hid (E3.out (S % lb) w φ hSi.out.inv)
      have hz9 : Hid (S / lb = 0) := Lib.hid (by
       rcases Nat.eq_zero_or_pos (S / lb) with q | q
       ·exact q
       ·have h := hnext.out
        rw [List.take_of_length_le (by rw [hnb.out]; omega), hmb.out, ← Nat.pow_add] at h
        have := carry_bd h hov.out hAi.out hbL.out hxl q
        omega)
      clear hset E3
      go_wp2
      rw [hSm.out, hSd.out]
      go_roundw
      case rel => exact ⟨S / lb, k + 1, os'.set (i + k) (S % lb), by omega, hc9, fun _ => hz9.out, rfl, by go_num, Lib.hid (by rw [List.length_set]; exact hol'.out), Lib.hid (hoL'.out.set hq9), hnext, Lib.hid ⟨hst.out.2, hst.out.1⟩⟩
      case measure => (simp [intOf] <;> omega)
  ·obtain rfl : na = i := by omega
   have hfin : Hid (LV os = m * n) := Lib.hid (by rw [hov.out, List.take_of_length_le (by rw [hna.out]; exact Nat.le_refl _), hma.out])
   obtain ⟨φ', _, hi', hs, _⟩ := hS.out.own.release hS.out.inv
   have HS' := Lib.hid hs
   have HI' := Lib.hid hi'
   clear hi' hs
   obtain ⟨q, hq⟩ : ∃ q, Hid ((limbs (LV os)).length = q) := ⟨_, Lib.hid rfl⟩
   go_wp2_with (go_at_call 102; refine (Rtrim_any HI'.out.fz HS'.out hol (by omega) hoL hq).mono ?_; rintro e w' ⟨rfl, rfl⟩)
   go_ret
   refine ⟨some ⟨w.heap.size, 0, none⟩, N, φ', ?_, HI'.out, HS'.out.trimI hoL.out hfin.out⟩
   rw [← hfin.out, hq.out]; rfl
end Go.Proofs.YtmlpjffnmkndoaaGreatDoor
