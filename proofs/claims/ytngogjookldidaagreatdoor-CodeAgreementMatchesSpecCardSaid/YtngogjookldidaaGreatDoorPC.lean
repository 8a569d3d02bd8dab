/- The program's natural numbers: the walk of plus. The program's natural numbers: the walk of minus. The program's exact numbers as rationals; the walks of FracPart, FracInt, Sign and Ratio. Conditions: the library's table of powers of ten reads as it was laid. The program's exact numbers: the walk of plus of fractions. Conditions: none beyond what the claim form gives. -/
import Derived.Test.YtngogjookldidaaGreatDoorNA
import Derived.Test.YtngogjookldidaaGreatDoorPB
import Derived.Test.YtngogjookldidaaGreatDoorPX
import Derived.Deep.RegionHeld3
namespace Go.Proofs.YtngogjookldidaaGreatDoor
open Go.RowKit
set_option linter.unusedVariables false
set_option linter.unusedSimpArgs false
theorem LV_snocP (xs : List Nat) (q : Nat) : LV (xs ++ [q]) = LV xs + lb ^ xs.length * q := by
  rw [LV_append]; simp [LV]
/-- One limb more of a sum. -/
theorem add_stepP {D L c c' q s x y K U V : Nat} (h1 : L + c * K = U + V) (h2 : s = c + x + y) (h3 : s = D * c' + q) : L + K * q + c' * (K * D) = (U + K * x) + (V + K * y) := by
  have h4 : K * (c + x + y) = K * (D * c' + q) := by rw [← h2, h3]
  rw [Nat.mul_add, Nat.mul_add, Nat.mul_add] at h4
  have h5 : c' * (K * D) = K * (D * c') := by rw [Nat.mul_comm c', Nat.mul_assoc]
  have h6 : K * c = c * K := Nat.mul_comm _ _
  omega
set_option maxRecDepth 100000 in
set_option maxHeartbeats 4000000 in
theorem plus_any {m n na nb : Nat} {a b : Option Addr} {ca cb : Nat} {w : World} {φ : Phi} (hφ : Fz φ w) (sa : SlV φ a ca (limbs m)) (sb : SlV φ b cb (limbs n)) (hna : Hid ((limbs m).length = na)) (hnb : Hid ((limbs n).length = nb)) (h4a : na ≤ 4000000000) (h4b : nb ≤ 4000000000) :
    Calls Tryz.prog 79 #[.slice a na ca, .slice b nb cb] w (NatPost (m + n) φ w) := by
  have hS0 : Hid (OwSt w φ 82 none 0 ([] : List Nat) w) := Lib.hid ⟨Inv.start hφ, Own.nil _ _ _ _⟩
  obtain ⟨mx, hmx⟩ : ∃ mx, mx = max na nb := ⟨_, rfl⟩
  have hmi : max (na : Int) (nb : Int) = (mx : Int) := by omega
  have hmx4 : mx ≤ 4000000000 := by omega
  have HMI := Lib.hid hmi
  have hLa : Hid (Lim (limbs m)) := Lib.hid (limbs_lim m)
  have hLb : Hid (Lim (limbs n)) := Lib.hid (limbs_lim n)
  have hma : Hid (LV (limbs m) = m) := Lib.hid (LV_limbs m)
  have hmb : Hid (LV (limbs n) = n) := Lib.hid (LV_limbs n)
  generalize limbs m = A at *
  generalize limbs n = B at *
  clear hmi
  go_enter Tryz.func79, Tryz.ntmps79
  go_wp2
  go_loopw [5, 6, 7] (fun ov cv iv wr => ∃ (i c : Nat) (ao : Option Addr) (co : Nat) (os : List Nat), i ≤ mx + 1 ∧ c ≤ 1 ∧ (i = mx + 1 → c = 0) ∧ ov = .slice ao os.length co ∧ cv = .int .u64 (c : Int) ∧ iv = .int .i64 (i : Int) ∧ Hid (os.length = i) ∧ Hid (Lim os) ∧ Hid (LV os + c * lb ^ i = LV (A.take i) + LV (B.take i)) ∧ Hid (OwSt w φ 82 ao co os wr)) (fun _ _ iv _ => mx + 1 - (intOf iv).toNat)
  case atStart => exact ⟨0, 0, none, 0, [], by omega, by omega, fun _ => rfl, rfl, rfl, rfl, Lib.hid rfl, Lib.hid (fun x hx => by simp at hx), Lib.hid (by simp [LV]), hS0⟩
  case round =>
    clear hS0
    obtain ⟨i, c, ao, co, os, hi, hc, hic, rfl, rfl, rfl, hol, hoL, hinv, hS⟩ := hrel
    have hol4 : os.length ≤ 4000000001 := by rw [hol.out]; omega
    by_cases hend : mx ≤ i ∧ c = 0
    · obtain ⟨hmi, rfl⟩ := hend
      have hi1 : ¬ (i : Int) < (na : Int) := by omega
      have hi2 : ¬ (i : Int) < (nb : Int) := by omega
      have hfin : Hid (LV os = m + n) := Lib.hid (by
        have h := hinv.out
        rw [Nat.zero_mul, Nat.add_zero, List.take_of_length_le (by rw [hna.out]; omega), List.take_of_length_le (by rw [hnb.out]; omega), hma.out, hmb.out] at h
        exact h)
      have hnlt : ¬ (i : Int) < max (na : Int) (nb : Int) := by rw [HMI.out]; omega
      obtain ⟨φ', _, hi', hs, _⟩ := hS.out.own.release hS.out.inv
      have HS' := Lib.hid hs
      have HI' := Lib.hid hi'
      obtain ⟨ol, hol2⟩ : ∃ ol, ol = os.length := ⟨_, rfl⟩
      rw [← hol2]
      have hoL2 : Hid (os.length = ol) := Lib.hid hol2.symm
      have hol5 : ol ≤ 4000000001 := by omega
      clear hi' hs hol2
      obtain ⟨q, hq⟩ : ∃ q, Hid ((limbs (LV os)).length = q) := ⟨_, Lib.hid rfl⟩
      go_wp2_with (go_at_call 81; refine (trim_any HI'.out.fz HS'.out hoL2 (by omega) hoL hq).mono ?_; rintro e w' ⟨rfl, rfl⟩)
      all_goals
        go_ret
        refine ⟨ao, co, φ', ?_, HI'.out, HS'.out.trim hoL.out hfin.out⟩
        rw [← hfin.out, hq.out]; rfl
    · obtain ⟨x, hx⟩ : ∃ x, Hid (A.getD i 0 = x) := ⟨_, Lib.hid rfl⟩
      obtain ⟨y, hy⟩ : ∃ y, Hid (B.getD i 0 = y) := ⟨_, Lib.hid rfl⟩
      have hxl : x < 1000000000 := by rw [← hx.out]; exact hLa.out.getD _
      have hyl : y < 1000000000 := by rw [← hy.out]; exact hLb.out.getD _
      have hx0 : na ≤ i → x = 0 := fun h => by rw [← hx.out, List.getD_eq_getElem?_getD, List.getElem?_eq_none (by rw [hna.out]; exact h)]; rfl
      have hy0 : nb ≤ i → y = 0 := fun h => by rw [← hy.out, List.getD_eq_getElem?_getD, List.getElem?_eq_none (by rw [hnb.out]; exact h)]; rfl
      obtain ⟨S, hSe⟩ : ∃ S, Hid (S = c + x + y) := ⟨_, Lib.hid rfl⟩
      have hq9 : S % lb < lb := Nat.mod_lt _ lb_pos
      have hc9 : S / lb ≤ 1 := by
        have : S < lb * 2 := by rw [hSe.out]; show _ < 2000000000; omega
        have := (Nat.div_lt_iff_lt_mul lb_pos).2 (by rw [Nat.mul_comm]; exact this)
        omega
      have him : i ≤ mx := by
        rcases Nat.lt_or_ge mx i with q | q
        · exfalso; exact hend ⟨by omega, hic (by omega)⟩
        · exact q
      have hz9 : Hid (i + 1 = mx + 1 → S / lb = 0) := Lib.hid (fun h => by
        rw [hSe.out, hx0 (by omega), hy0 (by omega)]; exact Nat.div_eq_of_lt (by show _ < 1000000000; omega))
      have hnext : Hid (LV (os ++ [S % lb]) + S / lb * lb ^ (i + 1) = LV (A.take (i + 1)) + LV (B.take (i + 1))) := Lib.hid (by
        rw [LV_take, LV_take, hx.out, hy.out, LV_snocP, hol.out, Nat.pow_succ]
        exact add_stepP hinv.out hSe.out (Nat.div_add_mod S lb).symm)
      by_cases hia : i < na
      · obtain ⟨ba, oa, rfl, f⟩ := sa.natD hna hia
        obtain ⟨_, d1⟩ := f i hia wr hS.out.inv.fz
        rw [hx.out] at d1
        have hlt : (i : Int) < max (na : Int) (nb : Int) := by rw [HMI.out]; omega
        have hi1 : (i : Int) < (na : Int) := by omega
        clear f hx0
        by_cases hib : i < nb
        · obtain ⟨bb, ob, rfl, f2⟩ := sb.natD hnb hib
          obtain ⟨_, d2⟩ := f2 i hib wr hS.out.inv.fz
          rw [hy.out] at d2
          have hi2 : (i : Int) < (nb : Int) := by omega
          clear f2 hy0
          have hSm : Hid (((c : Int) + (x : Int) + (y : Int)) % 1000000000 = ((S % lb : Nat) : Int)) := Lib.hid (by
            have e1 : (c : Int) + (x : Int) + (y : Int) = ((c + x + y : Nat) : Int) := by omega
            rw [hSe.out, e1]; rfl)
          have hSd : Hid (((c : Int) + (x : Int) + (y : Int)) / 1000000000 = ((S / lb : Nat) : Int)) := Lib.hid (by
            have e1 : (c : Int) + (x : Int) + (y : Int) = ((c + x + y : Nat) : Int) := by omega
            rw [hSe.out, e1]; rfl)
          have hin := Lib.hid hS.out.inv
          have hon := Lib.hid hS.out.own
          clear hS
          go_wp2_with (at_builtin; (refine wpList_app1F (α := Nat) rfl _ _ 80 rfl slNat hin.out ao co _ hon.out _ _ (S % lb) (by show [Value.int .u64 (((c : Int) + (x : Int) + (y : Int)) % 1000000000)] = [Value.int .u64 ((S % lb : Nat) : Int)]; rw [hSm.out]) rfl 1 rfl (by omega) ?_; intro a8 c8 w8 hi8 ho8 hg8 hf8))
          all_goals
            rw [hSd.out]
            go_roundw
            case rel => exact ⟨i + 1, S / lb, a8, c8, os ++ [S % lb], by omega, hc9, hz9.out, by simp, rfl, by go_num, Lib.hid (by rw [List.length_append, hol.out]; rfl), Lib.hid (hoL.out.append (Lim.one hq9)), hnext, Lib.hid ⟨hi8, ho8⟩⟩
            case measure => simp [intOf]; omega
        · have hyz : y = 0 := hy0 (by omega)
          have hi2 : ¬ (i : Int) < (nb : Int) := by omega
          have hyq := 0
          clear hy0
          have hSm : Hid (((c : Int) + (x : Int)) % 1000000000 = ((S % lb : Nat) : Int)) := Lib.hid (by
            have e1 : (c : Int) + (x : Int) = ((c + x + y : Nat) : Int) := by omega
            rw [hSe.out, e1]; rfl)
          have hSd : Hid (((c : Int) + (x : Int)) / 1000000000 = ((S / lb : Nat) : Int)) := Lib.hid (by
            have e1 : (c : Int) + (x : Int) = ((c + x + y : Nat) : Int) := by omega
            rw [hSe.out, e1]; rfl)
          have hin := Lib.hid hS.out.inv
          have hon := Lib.hid hS.out.own
          clear hS
          go_wp2_with (at_builtin; (refine wpList_app1F (α := Nat) rfl _ _ 80 rfl slNat hin.out ao co _ hon.out _ _ (S % lb) (by show [Value.int .u64 (((c : Int) + (x : Int)) % 1000000000)] = [Value.int .u64 ((S % lb : Nat) : Int)]; rw [hSm.out]) rfl 1 rfl (by omega) ?_; intro a8 c8 w8 hi8 ho8 hg8 hf8))
          all_goals
            rw [hSd.out]
            go_roundw
            case rel => exact ⟨i + 1, S / lb, a8, c8, os ++ [S % lb], by omega, hc9, hz9.out, by simp, rfl, by go_num, Lib.hid (by rw [List.length_append, hol.out]; rfl), Lib.hid (hoL.out.append (Lim.one hq9)), hnext, Lib.hid ⟨hi8, ho8⟩⟩
            case measure => simp [intOf]; omega
      · have hxz : x = 0 := hx0 (by omega)
        have hi1 : ¬ (i : Int) < (na : Int) := by omega
        have hxq := 0
        clear hx0
        by_cases hib : i < nb
        · obtain ⟨bb, ob, rfl, f2⟩ := sb.natD hnb hib
          obtain ⟨_, d2⟩ := f2 i hib wr hS.out.inv.fz
          rw [hy.out] at d2
          have hlt : (i : Int) < max (na : Int) (nb : Int) := by rw [HMI.out]; omega
          have hi2 : (i : Int) < (nb : Int) := by omega
          clear f2 hy0
          have hSm : Hid (((c : Int) + (y : Int)) % 1000000000 = ((S % lb : Nat) : Int)) := Lib.hid (by
            have e1 : (c : Int) + (y : Int) = ((c + x + y : Nat) : Int) := by omega
            rw [hSe.out, e1]; rfl)
          have hSd : Hid (((c : Int) + (y : Int)) / 1000000000 = ((S / lb : Nat) : Int)) := Lib.hid (by
            have e1 : (c : Int) + (y : Int) = ((c + x + y : Nat) : Int) := by omega
            rw [hSe.out, e1]; rfl)
          have hin := Lib.hid hS.out.inv
          have hon := Lib.hid hS.out.own
          clear hS
          go_wp2_with (at_builtin; (refine wpList_app1F (α := Nat) rfl _ _ 80 rfl slNat hin.out ao co _ hon.out _ _ (S % lb) (by show [Value.int .u64 (((c : Int) + (y : Int)) % 1000000000)] = [Value.int .u64 ((S % lb : Nat) : Int)]; rw [hSm.out]) rfl 1 rfl (by omega) ?_; intro a8 c8 w8 hi8 ho8 hg8 hf8))
          all_goals
            rw [hSd.out]
            go_roundw
            case rel => exact ⟨i + 1, S / lb, a8, c8, os ++ [S % lb], by omega, hc9, hz9.out, by simp, rfl, by go_num, Lib.hid (by rw [List.length_append, hol.out]; rfl), Lib.hid (hoL.out.append (Lim.one hq9)), hnext, Lib.hid ⟨hi8, ho8⟩⟩
            case measure => simp [intOf]; omega
        · have hyz : y = 0 := hy0 (by omega)
          have hlt : ¬ (i : Int) < max (na : Int) (nb : Int) := by rw [HMI.out]; omega
          have hc0 : (0 : Int) < (c : Int) := by omega
          have hi2 : ¬ (i : Int) < (nb : Int) := by omega
          have hyq := 0
          clear hy0
          have hSm : Hid (((c : Int)) % 1000000000 = ((S % lb : Nat) : Int)) := Lib.hid (by
            have e1 : (c : Int) = ((c + x + y : Nat) : Int) := by omega
            rw [hSe.out, e1]; rfl)
          have hSd : Hid (((c : Int)) / 1000000000 = ((S / lb : Nat) : Int)) := Lib.hid (by
            have e1 : (c : Int) = ((c + x + y : Nat) : Int) := by omega
            rw [hSe.out, e1]; rfl)
          have hin := Lib.hid hS.out.inv
          have hon := Lib.hid hS.out.own
          clear hS
          go_wp2_with (at_builtin; (refine wpList_app1F (α := Nat) rfl _ _ 80 rfl slNat hin.out ao co _ hon.out _ _ (S % lb) (by show [Value.int .u64 (((c : Int)) % 1000000000)] = [Value.int .u64 ((S % lb : Nat) : Int)]; rw [hSm.out]) rfl 1 rfl (by omega) ?_; intro a8 c8 w8 hi8 ho8 hg8 hf8))
          all_goals
            rw [hSd.out]
            go_roundw
            case rel => exact ⟨i + 1, S / lb, a8, c8, os ++ [S % lb], by omega, hc9, hz9.out, by simp, rfl, by go_num, Lib.hid (by rw [List.length_append, hol.out]; rfl), Lib.hid (hoL.out.append (Lim.one hq9)), hnext, Lib.hid ⟨hi8, ho8⟩⟩
            case measure => simp [intOf]; omega
end Go.Proofs.YtngogjookldidaaGreatDoor

namespace Go.Proofs.YtngogjookldidaaGreatDoor
open Go.RowKit
set_option linter.unusedVariables false
set_option linter.unusedSimpArgs false
/-- One limb more of a difference. -/
theorem sub_stepP {L Bv Av br K d y x br' : Nat} (h1 : L + Bv = Av + br * K) (h2 : d + br + y = x + lb * br') : L + K * d + (Bv + K * y) = (Av + K * x) + br' * (K * lb) := by
  have h3 : K * (d + br + y) = K * (x + lb * br') := by rw [h2]
  rw [Nat.mul_add, Nat.mul_add, Nat.mul_add] at h3
  have h4 : br' * (K * lb) = K * (lb * br') := by rw [Nat.mul_comm br', Nat.mul_assoc]
  have h5 : K * br = br * K := Nat.mul_comm _ _
  omega
theorem LV_take_set (os : List Nat) {i : Nat} (d : Nat) (h : i < os.length) : LV ((os.set i d).take (i + 1)) = LV (os.take i) + lb ^ i * d := by
  rw [LV_take, List.take_set_of_le (Nat.le_refl _), List.getD_eq_getElem?_getD, List.getElem?_set_self h]; rfl
set_option maxRecDepth 100000 in
set_option maxHeartbeats 4000000 in
theorem minus_any {m n na nb : Nat} {a b : Option Addr} {ca cb : Nat} {w : World} {φ : Phi} (hφ : Fz φ w) (sa : SlV φ a ca (limbs m)) (sb : SlV φ b cb (limbs n)) (hna : Hid ((limbs m).length = na)) (hnb : Hid ((limbs n).length = nb)) (h4a : na ≤ 4000000000) (hle : n ≤ m) :
    Calls Tryz.prog 80 #[.slice a na ca, .slice b nb cb] w (NatPost (m - n) φ w) := by
  have hI := Lib.hid (Inv.start hφ)
  have hLa : Hid (Lim (limbs m)) := Lib.hid (limbs_lim m)
  have hLb : Hid (Lim (limbs n)) := Lib.hid (limbs_lim n)
  have hma : Hid (LV (limbs m) = m) := Lib.hid (LV_limbs m)
  have hmb : Hid (LV (limbs n) = n) := Lib.hid (LV_limbs n)
  have hlen : nb ≤ na := by rw [← hna.out, ← hnb.out]; exact limbs_mono hle
  generalize limbs m = A at *
  generalize limbs n = B at *
  go_enter Tryz.func80, Tryz.ntmps80
  go_wp2_with (at_make; (refine wpList_mkn (α := Nat) rfl _ _ 80 rfl slNat hI.out _ _ na 0 (fun _ => rfl) rfl rfl rfl (by omega) ?_; intro w1 hi1 ho1 hg1))
  have hS0 : Hid (OwSt w φ 82 (some ⟨w.heap.size, 0, none⟩) na (List.replicate na 0) w1) := Lib.hid ⟨hi1, ho1⟩
  clear hi1 ho1 hg1
  go_loopw [6, 14] (fun bv iv wr => ∃ (i br : Nat) (os : List Nat), i ≤ na ∧ br ≤ 1 ∧ bv = .int .u64 (br : Int) ∧ iv = .int .i64 (i : Int) ∧ Hid (os.length = na) ∧ Hid (Lim os) ∧ Hid (LV (os.take i) + LV (B.take i) = LV (A.take i) + br * lb ^ i) ∧ Hid (OwSt w φ 82 (some ⟨w.heap.size, 0, none⟩) na os wr)) (fun _ iv _ => na - (intOf iv).toNat)
  case atStart => exact ⟨0, 0, List.replicate na 0, by omega, by omega, rfl, rfl, Lib.hid (by simp), Lib.hid (Lim.zeros na), Lib.hid (by simp [LV]), hS0⟩
  case round =>
    clear hS0
    obtain ⟨i, br, os, hi, hbr, rfl, rfl, hol, hoL, hinv, hS⟩ := hrel
    by_cases hia : i < na
    · obtain ⟨x, hx⟩ : ∃ x, Hid (A.getD i 0 = x) := ⟨_, Lib.hid rfl⟩
      obtain ⟨y, hy⟩ : ∃ y, Hid (B.getD i 0 = y) := ⟨_, Lib.hid rfl⟩
      have hxl : x < 1000000000 := by rw [← hx.out]; exact hLa.out.getD _
      have hyl : y < 1000000000 := by rw [← hy.out]; exact hLb.out.getD _
      obtain ⟨ba, oa, rfl, f⟩ := sa.natD hna hia
      obtain ⟨_, d1⟩ := f i hia wr hS.out.inv.fz
      rw [hx.out] at d1
      have hi1 : (i : Int) < (na : Int) := by omega
      obtain ⟨g, hga, hgl, fo⟩ := hS.out.own.natD hol (k := i) (by omega)
      cases hga
      obtain ⟨e1, e2, e3⟩ := fo i (by omega)
      clear f
      by_cases hib : i < nb
      · obtain ⟨bb, ob, rfl, f2⟩ := sb.natD hnb hib
        obtain ⟨_, d2⟩ := f2 i hib wr hS.out.inv.fz
        rw [hy.out] at d2
        have hi2 : (i : Int) < (nb : Int) := by omega
        clear f2
        by_cases hneg : x < br + y
        · have hni : ¬ (br : Int) + (y : Int) ≤ (x : Int) := by omega
          obtain ⟨d, hd0⟩ : ∃ d, d = x + 1000000000 - (br + y) := ⟨_, rfl⟩
          have hdl : d < 1000000000 := by omega
          have hd : Hid ((x : Int) + 1000000000 - ((br : Int) + (y : Int)) = (d : Int)) := Lib.hid (by omega)
          have hdd : d + br + y = x + lb * 1 := by show d + br + y = x + 1000000000 * 1; omega
          have hup : (0 : Int) ≤ (x : Int) + 1000000000 - ((br : Int) + (y : Int)) := by omega
          clear hd0 hneg
          have hst := Lib.hid (e3 d w φ hS.out.inv)
          have hnext : Hid (LV ((os.set i d).take (i + 1)) + LV (B.take (i + 1)) = LV (A.take (i + 1)) + 1 * lb ^ (i + 1)) := Lib.hid (by
            rw [LV_take_set os d (by rw [hol.out]; omega), LV_take B, LV_take A, hx.out, hy.out, Nat.pow_succ]
            exact sub_stepP hinv.out hdd)
          have hdl2 : d < lb := hdl
          have hoN : Hid (Lim (os.set i d)) := Lib.hid (hoL.out.set hdl2)
          clear e3 fo hS hinv hdd
          go_wp2
          all_goals
            (try rw [hd.out])
            go_roundw
            case rel => exact ⟨i + 1, 1, os.set i d, by omega, by omega, rfl, by go_num, Lib.hid (by rw [List.length_set]; exact hol.out), hoN, hnext, Lib.hid ⟨hst.out.2, hst.out.1⟩⟩
            case measure => (simp [intOf] <;> omega)
        · have hni : (br : Int) + (y : Int) ≤ (x : Int) := by omega
          obtain ⟨d, hd0⟩ : ∃ d, d = x - (br + y) := ⟨_, rfl⟩
          have hdl : d < 1000000000 := by omega
          have hd : Hid ((x : Int) - ((br : Int) + (y : Int)) = (d : Int)) := Lib.hid (by omega)
          have hdd : d + br + y = x + lb * 0 := by omega
          clear hd0 hneg
          have hst := Lib.hid (e3 d w φ hS.out.inv)
          have hnext : Hid (LV ((os.set i d).take (i + 1)) + LV (B.take (i + 1)) = LV (A.take (i + 1)) + 0 * lb ^ (i + 1)) := Lib.hid (by
            rw [LV_take_set os d (by rw [hol.out]; omega), LV_take B, LV_take A, hx.out, hy.out, Nat.pow_succ]
            exact sub_stepP hinv.out hdd)
          have hdl2 : d < lb := hdl
          have hoN : Hid (Lim (os.set i d)) := Lib.hid (hoL.out.set hdl2)
          clear e3 fo hS hinv hdd
          go_wp2
          all_goals
            (try rw [hd.out])
            go_roundw
            case rel => exact ⟨i + 1, 0, os.set i d, by omega, by omega, rfl, by go_num, Lib.hid (by rw [List.length_set]; exact hol.out), hoN, hnext, Lib.hid ⟨hst.out.2, hst.out.1⟩⟩
            case measure => (simp [intOf] <;> omega)
      · have hyz : y = 0 := by rw [← hy.out, List.getD_eq_getElem?_getD, List.getElem?_eq_none (by rw [hnb.out]; omega)]; rfl
        have hi2 : ¬ (i : Int) < (nb : Int) := by omega
        by_cases hneg : x < br + y
        · have hni : ¬ (br : Int) ≤ (x : Int) := by omega
          obtain ⟨d, hd0⟩ : ∃ d, d = x + 1000000000 - (br + y) := ⟨_, rfl⟩
          have hdl : d < 1000000000 := by omega
          have hd : Hid ((x : Int) + 1000000000 - ((br : Int)) = (d : Int)) := Lib.hid (by omega)
          have hdd : d + br + y = x + lb * 1 := by show d + br + y = x + 1000000000 * 1; omega
          have hup : (0 : Int) ≤ (x : Int) + 1000000000 - ((br : Int)) := by omega
          clear hd0 hneg
          have hst := Lib.hid (e3 d w φ hS.out.inv)
          have hnext : Hid (LV ((os.set i d).take (i + 1)) + LV (B.take (i + 1)) = LV (A.take (i + 1)) + 1 * lb ^ (i + 1)) := Lib.hid (by
            rw [LV_take_set os d (by rw [hol.out]; omega), LV_take B, LV_take A, hx.out, hy.out, Nat.pow_succ]
            exact sub_stepP hinv.out hdd)
          have hdl2 : d < lb := hdl
          have hoN : Hid (Lim (os.set i d)) := Lib.hid (hoL.out.set hdl2)
          clear e3 fo hS hinv hdd
          go_wp2
          all_goals
            (try rw [hd.out])
            go_roundw
            case rel => exact ⟨i + 1, 1, os.set i d, by omega, by omega, rfl, by go_num, Lib.hid (by rw [List.length_set]; exact hol.out), hoN, hnext, Lib.hid ⟨hst.out.2, hst.out.1⟩⟩
            case measure => (simp [intOf] <;> omega)
        · have hni : (br : Int) ≤ (x : Int) := by omega
          obtain ⟨d, hd0⟩ : ∃ d, d = x - (br + y) := ⟨_, rfl⟩
          have hdl : d < 1000000000 := by omega
          have hd : Hid ((x : Int) - ((br : Int)) = (d : Int)) := Lib.hid (by omega)
          have hdd : d + br + y = x + lb * 0 := by omega
          clear hd0 hneg
          have hst := Lib.hid (e3 d w φ hS.out.inv)
          have hnext : Hid (LV ((os.set i d).take (i + 1)) + LV (B.take (i + 1)) = LV (A.take (i + 1)) + 0 * lb ^ (i + 1)) := Lib.hid (by
            rw [LV_take_set os d (by rw [hol.out]; omega), LV_take B, LV_take A, hx.out, hy.out, Nat.pow_succ]
            exact sub_stepP hinv.out hdd)
          have hdl2 : d < lb := hdl
          have hoN : Hid (Lim (os.set i d)) := Lib.hid (hoL.out.set hdl2)
          clear e3 fo hS hinv hdd
          go_wp2
          all_goals
            (try rw [hd.out])
            go_roundw
            case rel => exact ⟨i + 1, 0, os.set i d, by omega, by omega, rfl, by go_num, Lib.hid (by rw [List.length_set]; exact hol.out), hoN, hnext, Lib.hid ⟨hst.out.2, hst.out.1⟩⟩
            case measure => (simp [intOf] <;> omega)
    · obtain rfl : i = na := by omega
      have hil : ¬ (i : Int) < (i : Int) := by omega
      have hfin : Hid (LV os = m - n) := Lib.hid (by
        have h := hinv.out
        rw [List.take_of_length_le (l := os) (by rw [hol.out]; exact Nat.le_refl _), List.take_of_length_le (by rw [hnb.out]; omega), List.take_of_length_le (by rw [hna.out]; exact Nat.le_refl _), hma.out, hmb.out] at h
        have hlt := LV_lt hoL.out
        rw [hol.out] at hlt
        have hb0 : br = 0 := by
          rcases Nat.eq_zero_or_pos br with q | q
          · exact q
          · have : br = 1 := by omega
            rw [this, Nat.one_mul] at h
            omega
        rw [hb0, Nat.zero_mul] at h
        omega)
      obtain ⟨φ', _, hi', hs, _⟩ := hS.out.own.release hS.out.inv
      have HS' := Lib.hid hs
      have HI' := Lib.hid hi'
      clear hi' hs hinv hS
      obtain ⟨q, hq⟩ : ∃ q, Hid ((limbs (LV os)).length = q) := ⟨_, Lib.hid rfl⟩
      go_wp2_with (go_at_call 81; refine (trim_any HI'.out.fz HS'.out hol (by omega) hoL hq).mono ?_; rintro e w' ⟨rfl, rfl⟩)
      go_ret
      refine ⟨some ⟨w.heap.size, 0, none⟩, i, φ', ?_, HI'.out, HS'.out.trim hoL.out hfin.out⟩
      rw [← hfin.out, hq.out]; rfl
end Go.Proofs.YtngogjookldidaaGreatDoor

namespace Go.Proofs.YtngogjookldidaaGreatDoor
open Go.RowKit
set_option linter.unusedVariables false
set_option linter.unusedSimpArgs false
/-- A value that reads as a fraction of the program's; its numerator and denominator are at most N and D. -/
def FfX (φ : Phi) (v : Value) (x : Rat) (N D : Nat) : Prop := ∃ (neg : Bool) (n d : Nat) (a1 : Option Addr) (c1 : Nat) (a2 : Option Addr) (c2 : Nat),
  v = .agg #[.bool neg, .slice a1 (limbs n).length c1, .slice a2 (limbs d).length c2] ∧ SlV φ a1 c1 (limbs n) ∧ SlV φ a2 c2 (limbs d) ∧ 0 < d ∧ n ≤ N ∧ d ≤ D ∧ rat neg n d = x
theorem FfX.mono {φ φ' : Phi} {v : Value} {x : Rat} {N D : Nat} (h : FfX φ v x N D) (hl : φ.le φ') : FfX φ' v x N D := by
  obtain ⟨neg, n, d, a1, c1, a2, c2, rfl, s1, s2, r⟩ := h
  exact ⟨neg, n, d, a1, c1, a2, c2, rfl, s1.mono hl, s2.mono hl, r⟩
theorem FfX.le {φ : Phi} {v : Value} {x : Rat} {N D N' D' : Nat} (h : FfX φ v x N D) (h1 : N ≤ N') (h2 : D ≤ D') : FfX φ v x N' D' := by
  obtain ⟨neg, n, d, a1, c1, a2, c2, rfl, s1, s2, h0, hn, hd, r⟩ := h
  exact ⟨neg, n, d, a1, c1, a2, c2, rfl, s1, s2, h0, by omega, by omega, r⟩
theorem FfX.open {φ : Phi} {v : Value} {x : Rat} {N D : Nat} (h : FfX φ v x N D) : ∃ (neg : Bool) (n d k1 k2 : Nat) (a1 : Option Addr) (c1 : Nat) (a2 : Option Addr) (c2 : Nat),
    v = .agg #[.bool neg, .slice a1 k1 c1, .slice a2 k2 c2] ∧ SlV φ a1 c1 (limbs n) ∧ SlV φ a2 c2 (limbs d) ∧ Hid ((limbs n).length = k1) ∧ Hid ((limbs d).length = k2) ∧ 0 < d ∧ n ≤ N ∧ d ≤ D ∧ rat neg n d = x := by
  obtain ⟨neg, n, d, a1, c1, a2, c2, rfl, s1, s2, h⟩ := h
  exact ⟨neg, n, d, _, _, a1, c1, a2, c2, rfl, s1, s2, Lib.hid rfl, Lib.hid rfl, h⟩
def FfXP (x : Rat) (N D : Nat) (φ : Phi) (w : World) (e : Ending) (w' : World) : Prop :=
  ∃ v φ', e = .returned v ∧ Inv w.heap.size w φ φ' w' ∧ FfX φ' v x N D
/-- A call with a result's cell; φ1 is what was frozen at its start. -/
structure FpS (T : TypeId) (w0 : World) (φ0 φ1 φ : Phi) (b : Nat) (W : World) : Prop where
  rs : RsSt w0 φ0 φ b #[.bool false, .slice none 0 0, .slice none 0 0] T W
  le : φ1.le φ
section
variable {T : TypeId} {w0 W w' : World} {φ0 φ1 φ φ' : Phi} {b : Nat}
theorem FpS.call (h : FpS T w0 φ0 φ1 φ b W) (hi : Inv W.heap.size W φ φ' w') : FpS T w0 φ0 φ1 φ' b w' := ⟨h.rs.call hi, h.le.trans hi.le⟩
theorem FpS.callB (h : FpS T w0 φ0 φ1 φ b W) (hb : Below W.heap.size W w') : FpS T w0 φ0 φ1 φ b w' := ⟨h.rs.callB hb, h.le⟩
theorem FpS.fz (h : FpS T w0 φ0 φ1 φ b W) : Fz φ W := h.rs.inv.fz
end
theorem sgn_ofP (n : Int) : sgn (decide (n < 0)) n.natAbs = n := by
  unfold sgn
  by_cases h : n < 0
  · rw [decide_eq_true h, if_pos rfl]; omega
  · rw [decide_eq_false h, if_neg (by simp)]; omega
def sgI (x : Rat) : Int := if x = 0 then 0 else if x < 0 then -1 else 1
theorem rat_neg_iff {x : Rat} {neg : Bool} {n d : Nat} (hd : 0 < d) (hn : 0 < n) (hx : rat neg n d = x) : x < 0 ↔ neg = true := by
  have h1 : rat neg n d < 0 ↔ (rat neg n d).num < 0 := by rw [← Rat.not_le, ← Rat.num_nonneg, Int.not_le]
  rw [← hx, h1, rat_neg (by omega)]
  have hg : 0 < n.gcd d := gcd_dle hd
  have : n / n.gcd d ≠ 0 := by
    have := Nat.div_pos (Nat.le_of_dvd hn (Nat.gcd_dvd_left n d)) hg
    omega
  simp [this]
theorem sgI_eq {x : Rat} {neg : Bool} {n d : Nat} (hd : 0 < d) (hx : rat neg n d = x) : sgI x = if n = 0 then 0 else if neg then -1 else 1 := by
  have h0 := rat_zero_iff hd hx
  unfold sgI
  by_cases hn : n = 0
  · rw [if_pos (h0.2 hn), if_pos hn]
  · rw [if_neg (fun e => hn (h0.1 e)), if_neg hn]
    have := rat_neg_iff hd (by omega) hx
    by_cases hneg : neg = true
    · rw [if_pos (this.2 hneg), if_pos hneg]
    · rw [if_neg (fun e => hneg (this.1 e)), if_neg hneg]
end Go.Proofs.YtngogjookldidaaGreatDoor

namespace Go.Proofs.YtngogjookldidaaGreatDoor
open Go.RowKit
set_option linter.unusedVariables false
set_option linter.unusedSimpArgs false
theorem sgn_mulR (neg : Bool) (m g : Nat) : sgn neg (m * g) = sgn neg m * (g : Int) := by
  have := sgn_mul neg g m
  rw [Nat.mul_comm m g, ← this, Int.mul_comm]
theorem rat_cancel {s : Bool} {n d k : Nat} (hk : 0 < k) : rat s (n * k) (d * k) = rat s n d := by
  rw [rat, rat, sgn_mulR]
  exact Rat.mkRat_mul_right (by omega)
theorem rat_eq_left {s : Bool} {n1 n2 d : Nat} (hd : 0 < d) (h : n2 ≤ n1) : rat s (n1 - n2) d = rat s n1 d + rat (!s) n2 d := by
  have := rat_plus_left (s := s) (n1 := n1) (d1 := d) (n2 := n2) (d2 := d) hd hd (Nat.mul_le_mul_right _ h)
  rw [← Nat.sub_mul, rat_cancel hd] at this
  exact this
theorem rat_eq_right {s : Bool} {n1 n2 d : Nat} (hd : 0 < d) (h : n1 ≤ n2) : rat (!s) (n2 - n1) d = rat s n1 d + rat (!s) n2 d := by
  have := rat_plus_right (s := s) (n1 := n1) (d1 := d) (n2 := n2) (d2 := d) hd hd (Nat.mul_le_mul_right _ h)
  rw [← Nat.sub_mul, rat_cancel hd] at this
  exact this
/-- The three ways of a sum. -/
structure SumR (g1 g2 : Bool) (P Q DN : Nat) (z : Rat) : Prop where
  pos : 0 < DN
  same : g1 = g2 → rat g1 (P + Q) DN = z
  left : g2 = !g1 → Q ≤ P → rat g1 (P - Q) DN = z
  right : g2 = !g1 → P ≤ Q → rat (!g1) (Q - P) DN = z
theorem SumR.ne {g1 g2 : Bool} {n1 d1 n2 d2 : Nat} (h1 : 0 < d1) (h2 : 0 < d2) : SumR g1 g2 (n1 * d2) (n2 * d1) (d1 * d2) (rat g1 n1 d1 + rat g2 n2 d2) :=
  ⟨Nat.mul_pos h1 h2, fun e => by subst e; exact rat_plus_same h1 h2, fun e h => by subst e; exact rat_plus_left h1 h2 h, fun e h => by subst e; exact rat_plus_right h1 h2 h⟩
theorem SumR.eq {g1 g2 : Bool} {n1 n2 d : Nat} (h : 0 < d) : SumR g1 g2 n1 n2 d (rat g1 n1 d + rat g2 n2 d) :=
  ⟨h, fun e => by subst e; exact rat_same_den h, fun e hl => by subst e; exact rat_eq_left h hl, fun e hl => by subst e; exact rat_eq_right h hl⟩
/-- The cells of a frozen box of three. -/
theorem box3 {φ φ' : Phi} {W : World} {b : Nat} {T : TypeId} {u0 u1 u2 : Value} (hb : φ b = some (.cells #[u0, u1, u2] T)) (hl : φ.le φ') (hf : Fz φ' W) : W.cell? ⟨b, 0, none⟩ = some u0 ∧ W.cell? ⟨b, 1, none⟩ = some u1 ∧ W.cell? ⟨b, 2, none⟩ = some u2 := ⟨box_cell hb hl hf 0, box_cell hb hl hf 1, box_cell hb hl hf 2⟩
theorem and6 {a b c d e f : Prop} (h : a ∧ b ∧ c) (k : d ∧ e ∧ f) : a ∧ b ∧ c ∧ d ∧ e ∧ f := ⟨h.1, h.2.1, h.2.2, k⟩
set_option maxRecDepth 100000 in
set_option maxHeartbeats 4000000 in
theorem fplus_any {M : Nat} (hM : LenB M) {v1 v2 : Value} {x y : Rat} {N1 D1 N2 D2 : Nat} {w : World} {φ : Phi} (hφ : Fz φ w) (hv1 : FfX φ v1 x N1 D1) (hv2 : FfX φ v2 y N2 D2) (hM1 : N1 * D2 + N2 * D1 ≤ M) (hM2 : D1 * D2 ≤ M) :
    Calls Tryz.prog 53 #[v1, v2] w (FfXP (x + y) (N1 * D2 + N2 * D1) (D1 * D2) φ w) := by
  obtain ⟨g1, n1, d1, p1, p2, a1, c1, a2, c2, rfl, s1, s2, l1, l2, hd1, hn1, hnd1, hx1⟩ := hv1.open
  obtain ⟨g2, n2, d2, p3, p4, a3, c3, a4, c4, rfl, s3, s4, l3, l4, hd2, hn2, hnd2, hx2⟩ := hv2.open
  have hq1 : n1 * d2 ≤ N1 * D2 := Nat.mul_le_mul hn1 hnd2
  have hq2 : n2 * d1 ≤ N2 * D1 := Nat.mul_le_mul hn2 hnd1
  have hq3 : d1 * d2 ≤ D1 * D2 := Nat.mul_le_mul hnd1 hnd2
  have hr1 : n1 ≤ n1 * d2 := Nat.le_mul_of_pos_right n1 hd2
  have hr2 : n2 ≤ n2 * d1 := Nat.le_mul_of_pos_right n2 hd1
  have hr3 : d1 ≤ d1 * d2 := Nat.le_mul_of_pos_right d1 hd2
  have hr4 : d2 ≤ d1 * d2 := Nat.le_mul_of_pos_left d2 hd1
  obtain ⟨NB, hNB⟩ : ∃ NB, N1 * D2 + N2 * D1 = NB := ⟨_, rfl⟩
  obtain ⟨DB, hDB⟩ : ∃ DB, D1 * D2 = DB := ⟨_, rfl⟩
  rw [hNB] at hM1 ⊢
  rw [hDB] at hM2 hq3 ⊢
  have hqs : n1 * d2 + n2 * d1 ≤ NB := by omega
  have b1 : p1 ≤ 1000000000 := by rw [← l1.out]; exact hM.len (by omega)
  have b2 : p2 ≤ 1000000000 := by rw [← l2.out]; exact hM.len (by omega)
  have b3 : p3 ≤ 1000000000 := by rw [← l3.out]; exact hM.len (by omega)
  have b4 : p4 ≤ 1000000000 := by rw [← l4.out]; exact hM.len (by omega)
  obtain ⟨φ1, hle1, hi1, hb1⟩ := (Inv.start hφ).frz (.cells #[.bool g1, .slice a1 p1 c1, .slice a2 p2 c2] 85)
  obtain ⟨φ2, hle2, hi2, hb2⟩ := hi1.frz (.cells #[.bool g2, .slice a3 p3 c3, .slice a4 p4 c4] 85)
  have hS0 : Hid (FpS 85 w φ φ2 φ2 (w.heap.size + 1 + 1) _) := Lib.hid ⟨by have := RsSt.start hi2 #[.bool false, .slice none 0 0, .slice none 0 0] 85; rw [alloc_sz, alloc_sz] at this; exact this, φ2.le_refl⟩
  rw [alloc_sz] at hb2
  have S1 := Lib.hid ((s1.mono hle1).mono hle2)
  have S2 := Lib.hid ((s2.mono hle1).mono hle2)
  have S3 := Lib.hid ((s3.mono hle1).mono hle2)
  have S4 := Lib.hid ((s4.mono hle1).mono hle2)
  have HB1 := Lib.hid (hle2 _ _ hb1)
  have HB2 := Lib.hid hb2
  have HX1 := Lib.hid hx1
  have HX2 := Lib.hid hx2
  clear s1 s2 s3 s4 hle1 hle2 hi1 hi2 hb1 hb2 hφ hx1 hx2 hNB hDB hn1 hn2 hnd1 hnd2 hq1 hq2
  go_enter Tryz.func53, Tryz.ntmps53
  go_upto_region 1 with fail
  generalize ((w.alloc (Obj.cells #[Value.bool g1, Value.slice a1 p1 c1, Value.slice a2 p2 c2] 85)).alloc (Obj.cells #[Value.bool g2, Value.slice a3 p3 c3, Value.slice a4 p4 c4] 85)).alloc (Obj.cells #[Value.bool false, Value.slice none 0 0, Value.slice none 0 0] 85) = wx at *
  obtain ⟨bb, hbb⟩ : ∃ b, w.heap.size = b := ⟨_, rfl⟩
  have HBB := Lib.hid hbb
  rw [hbb] at HB1 HB2 hS0 ⊢
  clear hbb
  have hbox := Lib.hid (fun (φ3 : Phi) (W : World) (h : Hid (FpS 85 w φ φ2 φ3 (bb + 1 + 1) W)) => and6 (box3 HB1.out h.out.le h.out.fz) (box3 HB2.out h.out.le h.out.fz))
  obtain ⟨x0, x1, x2, x3, x4, x5⟩ := hbox.out _ _ hS0
  have hbt : ∀ W : World, True := fun _ => trivial
  go_wp2
  go_quiet (fail)
  rename Nat => nq
  have hS1 := Lib.hid (hS0.out.callB (bdrewN (Below.refl _ wx) nq))
  obtain ⟨y0, y1, y2, y3, y4, y5⟩ := hbox.out _ _ hS1
  clear hbt
  by_cases hde : d1 = d2
  · subst hde
    have hc0 : Hid (cmpN d1 d1 = 0) := Lib.hid (by rw [cmpN, if_neg (by omega), if_neg (by omega)])
    have HR : Hid (SumR g1 g2 n1 n2 d1 (x + y)) := Lib.hid (by have := SumR.eq (g1 := g1) (g2 := g2) (n1 := n1) (n2 := n2) hd1; rwa [HX1.out, HX2.out] at this)
    have hqd : d1 ≤ DB := by omega
    have hPQ : n1 + n2 ≤ NB := by omega
    go_upto_region 5 with (go_at_call 78; (with_reducible refine (compare_any hS1.out.fz S2.out S4.out l2 l4 (by omega) (by omega) hc0).mono ?_); rintro e w5 ⟨rfl, hb5⟩; have H5 := Lib.hid (hS1.out.callB hb5); clear hb5)
    have SP5 := S1
    have SQ5 := S3
    have SD5 := S2
    clear y0 y1 y2 y3 y4 y5 hS1 hS0 hc0 hr1 hr2 hr3 hr4
    obtain ⟨y0, y1, y2, y3, y4, y5⟩ := hbox.out _ _ H5
    by_cases hg : g1 = g2
    · subst hg
      have hgb : (g1 == g1) = true := by simp
      obtain ⟨kr, hkr⟩ : ∃ k, Hid ((limbs (n1 + n2)).length = k) := ⟨_, Lib.hid rfl⟩
      have HX : Hid (rat g1 (n1 + n2) d1 = x + y) := Lib.hid (HR.out.same rfl)
      have hqr : n1 + n2 ≤ NB := by omega
      go_wp2
      have H4d : Hid (FpS 85 w φ φ2 φ2 (bb + 1 + 1) w5.drew) := Lib.hid (H5.out.callB (bdrewN (Below.refl _ w5) 1))
      obtain ⟨x0, _, _, x3, _, _⟩ := hbox.out _ _ H5
      have x0d : w5.drew.cell? ⟨bb, 0, none⟩ = some (.bool g1) := x0
      have x3d : w5.drew.cell? ⟨bb + 1, 0, none⟩ = some (.bool g1) := x3
      clear y0
      go_region_held3 (fun w' => w'.cell? ⟨bb, 0, none⟩ = some (.bool g1) ∧ w'.cell? ⟨bb + 1, 0, none⟩ = some (.bool g1)) (first | with_reducible exact ⟨x0d, x3d⟩ | with_reducible exact ⟨by assumption, by assumption⟩ | exact ⟨keep3 (by with_reducible assumption) (show bb + 1 + 1 ≠ bb by omega), keep3 (by with_reducible assumption) (show bb + 1 + 1 ≠ bb + 1 by omega)⟩)
        (((with_reducible refine (plus_any H4d.out.fz SP5.out SQ5.out l1 l3 (by omega) (by omega)).mono ?_); rintro e w6 ⟨a7, c7, φ6, rfl, hi6, hs6⟩; rw [hkr.out]; have H6 := Lib.hid (H4d.out.call hi6); have L6 := Lib.hid hi6.le; have SR := Lib.hid hs6; obtain ⟨y0, _, _, y3, _, _⟩ := hbox.out _ _ H6; obtain ⟨z0, z1, z2, z3, z4, z5⟩ := H6.out.rs.facts))
      go_wp2
      have hIZ := Lib.hid (((H6.out.rs.inv.setCell H6.out.rs.l H6.out.rs.f (off := 0) (Value.bool g1)).setCell H6.out.rs.l H6.out.rs.f (off := 1) (Value.slice a7 kr c7)).setCell H6.out.rs.l H6.out.rs.f (off := 2) (Value.slice a2 p2 c2))
      have hBZ := Lib.hid (((H6.out.rs.k.set 0 (Value.bool g1)).set 1 (Value.slice a7 kr c7)).set 2 (Value.slice a2 p2 c2))
      have e0 : _ = some (Value.bool g1) := hBZ.out.cell 0
      have e1 : _ = some (Value.slice a7 kr c7) := hBZ.out.cell 1
      have e2 : _ = some (Value.slice a2 p2 c2) := hBZ.out.cell 2
      (try simp only [Exit.inBlock, Exit.then])
      refine bodyPost_ret (v := .agg #[(Value.bool g1), (Value.slice a7 kr c7), (Value.slice a2 p2 c2)]) (by simp [results, Tryz.results53, go_sem, e0, e1, e2]) rfl ?_
      exact ⟨_, φ6, rfl, hIZ.out, g1, (n1 + n2), d1, a7, c7, a2, c2, by rw [hkr.out, l2.out], SR.out, SD5.out.mono L6.out, HR.out.pos, hqr, hqd, HX.out⟩
    · have hg2 : g2 = !g1 := by cases g1 <;> cases g2 <;> simp_all
      subst hg2
      have hgb : (g1 == !g1) = false := by cases g1 <;> rfl
      clear hg
      by_cases hle : n2 ≤ n1
      · obtain ⟨cq, hcq⟩ : ∃ q, Hid (cmpN n1 n2 = q) := ⟨_, Lib.hid rfl⟩
        have hcq0 : 0 ≤ cq := by rw [← hcq.out, cmpN, if_neg (by omega)]; split <;> omega
        obtain ⟨kr, hkr⟩ : ∃ k, Hid ((limbs (n1 - n2)).length = k) := ⟨_, Lib.hid rfl⟩
        have HX : Hid (rat g1 (n1 - n2) d1 = x + y) := Lib.hid (HR.out.left rfl hle)
        have hqr : n1 - n2 ≤ NB := by omega
        go_wp2_with (go_at_call 78; refine (compare_any H5.out.fz SP5.out SQ5.out l1 l3 (by omega) (by omega) hcq).mono ?_; rintro e w8 ⟨rfl, hb8⟩; have H8 := Lib.hid (H5.out.callB hb8); clear hb8; obtain ⟨u0, u1, u2, u3, u4, u5⟩ := hbox.out _ _ H8)
        have H4d : Hid (FpS 85 w φ φ2 φ2 (bb + 1 + 1) w8.drew) := Lib.hid (H8.out.callB (bdrewN (Below.refl _ w8) 1))
        obtain ⟨x0, _, _, x3, _, _⟩ := hbox.out _ _ H8
        have x0d : w8.drew.cell? ⟨bb, 0, none⟩ = some (.bool g1) := x0
        have x3d : w8.drew.cell? ⟨bb + 1, 0, none⟩ = some (.bool (!g1)) := x3
        clear u0
        go_region_held3 (fun w' => w'.cell? ⟨bb, 0, none⟩ = some (.bool g1) ∧ w'.cell? ⟨bb + 1, 0, none⟩ = some (.bool (!g1))) (first | with_reducible exact ⟨x0d, x3d⟩ | with_reducible exact ⟨by assumption, by assumption⟩ | exact ⟨keep3 (by with_reducible assumption) (show bb + 1 + 1 ≠ bb by omega), keep3 (by with_reducible assumption) (show bb + 1 + 1 ≠ bb + 1 by omega)⟩)
          (((with_reducible refine (minus_any H4d.out.fz SP5.out SQ5.out l1 l3 (by omega) hle).mono ?_); rintro e w6 ⟨a7, c7, φ6, rfl, hi6, hs6⟩; rw [hkr.out]; have H6 := Lib.hid (H4d.out.call hi6); have L6 := Lib.hid hi6.le; have SR := Lib.hid hs6; obtain ⟨y0, _, _, y3, _, _⟩ := hbox.out _ _ H6; obtain ⟨z0, z1, z2, z3, z4, z5⟩ := H6.out.rs.facts))
        go_wp2
        have hIZ := Lib.hid (((H6.out.rs.inv.setCell H6.out.rs.l H6.out.rs.f (off := 0) (Value.bool g1)).setCell H6.out.rs.l H6.out.rs.f (off := 1) (Value.slice a7 kr c7)).setCell H6.out.rs.l H6.out.rs.f (off := 2) (Value.slice a2 p2 c2))
        have hBZ := Lib.hid (((H6.out.rs.k.set 0 (Value.bool g1)).set 1 (Value.slice a7 kr c7)).set 2 (Value.slice a2 p2 c2))
        have e0 : _ = some (Value.bool g1) := hBZ.out.cell 0
        have e1 : _ = some (Value.slice a7 kr c7) := hBZ.out.cell 1
        have e2 : _ = some (Value.slice a2 p2 c2) := hBZ.out.cell 2
        (try simp only [Exit.inBlock, Exit.then])
        refine bodyPost_ret (v := .agg #[(Value.bool g1), (Value.slice a7 kr c7), (Value.slice a2 p2 c2)]) (by simp [results, Tryz.results53, go_sem, e0, e1, e2]) rfl ?_
        exact ⟨_, φ6, rfl, hIZ.out, g1, (n1 - n2), d1, a7, c7, a2, c2, by rw [hkr.out, l2.out], SR.out, SD5.out.mono L6.out, HR.out.pos, hqr, hqd, HX.out⟩
      · obtain ⟨cq, hcq⟩ : ∃ q, Hid (cmpN n1 n2 = q) := ⟨_, Lib.hid rfl⟩
        have hcq0 : ¬ 0 ≤ cq := by rw [← hcq.out, cmpN, if_pos (by omega)]; omega
        obtain ⟨kr, hkr⟩ : ∃ k, Hid ((limbs (n2 - n1)).length = k) := ⟨_, Lib.hid rfl⟩
        have HX : Hid (rat (!g1) (n2 - n1) d1 = x + y) := Lib.hid (HR.out.right rfl (by omega))
        have hqr : n2 - n1 ≤ NB := by omega
        go_wp2_with (go_at_call 78; refine (compare_any H5.out.fz SP5.out SQ5.out l1 l3 (by omega) (by omega) hcq).mono ?_; rintro e w8 ⟨rfl, hb8⟩; have H8 := Lib.hid (H5.out.callB hb8); clear hb8; obtain ⟨u0, u1, u2, u3, u4, u5⟩ := hbox.out _ _ H8)
        have H4d : Hid (FpS 85 w φ φ2 φ2 (bb + 1 + 1) w8.drew) := Lib.hid (H8.out.callB (bdrewN (Below.refl _ w8) 1))
        obtain ⟨x0, _, _, x3, _, _⟩ := hbox.out _ _ H8
        have x0d : w8.drew.cell? ⟨bb, 0, none⟩ = some (.bool g1) := x0
        have x3d : w8.drew.cell? ⟨bb + 1, 0, none⟩ = some (.bool (!g1)) := x3
        clear u0
        go_region_held3 (fun w' => w'.cell? ⟨bb, 0, none⟩ = some (.bool g1) ∧ w'.cell? ⟨bb + 1, 0, none⟩ = some (.bool (!g1))) (first | with_reducible exact ⟨x0d, x3d⟩ | with_reducible exact ⟨by assumption, by assumption⟩ | exact ⟨keep3 (by with_reducible assumption) (show bb + 1 + 1 ≠ bb by omega), keep3 (by with_reducible assumption) (show bb + 1 + 1 ≠ bb + 1 by omega)⟩)
          (((with_reducible refine (minus_any H4d.out.fz SQ5.out SP5.out l3 l1 (by omega) (by omega)).mono ?_); rintro e w6 ⟨a7, c7, φ6, rfl, hi6, hs6⟩; rw [hkr.out]; have H6 := Lib.hid (H4d.out.call hi6); have L6 := Lib.hid hi6.le; have SR := Lib.hid hs6; obtain ⟨y0, _, _, y3, _, _⟩ := hbox.out _ _ H6; obtain ⟨z0, z1, z2, z3, z4, z5⟩ := H6.out.rs.facts))
        go_wp2
        have hIZ := Lib.hid (((H6.out.rs.inv.setCell H6.out.rs.l H6.out.rs.f (off := 0) (Value.bool (!g1))).setCell H6.out.rs.l H6.out.rs.f (off := 1) (Value.slice a7 kr c7)).setCell H6.out.rs.l H6.out.rs.f (off := 2) (Value.slice a2 p2 c2))
        have hBZ := Lib.hid (((H6.out.rs.k.set 0 (Value.bool (!g1))).set 1 (Value.slice a7 kr c7)).set 2 (Value.slice a2 p2 c2))
        have e0 : _ = some (Value.bool (!g1)) := hBZ.out.cell 0
        have e1 : _ = some (Value.slice a7 kr c7) := hBZ.out.cell 1
        have e2 : _ = some (Value.slice a2 p2 c2) := hBZ.out.cell 2
        (try simp only [Exit.inBlock, Exit.then])
        refine bodyPost_ret (v := .agg #[(Value.bool (!g1)), (Value.slice a7 kr c7), (Value.slice a2 p2 c2)]) (by simp [results, Tryz.results53, go_sem, e0, e1, e2]) rfl ?_
        exact ⟨_, φ6, rfl, hIZ.out, (!g1), (n2 - n1), d1, a7, c7, a2, c2, by rw [hkr.out, l2.out], SR.out, SD5.out.mono L6.out, HR.out.pos, hqr, hqd, HX.out⟩
  · obtain ⟨q0, hc0⟩ : ∃ q, Hid (cmpN d1 d2 = q) := ⟨_, Lib.hid rfl⟩
    have hq0 : ¬ q0 = 0 := by
      rw [← hc0.out, cmpN]
      rcases Nat.lt_or_ge d1 d2 with q | q
      · rw [if_pos q]; decide
      · rw [if_neg (by omega), if_pos (by omega)]; decide
    have hq0i : (q0 == 0) = false := by simp [hq0]
    have hq0j : (q0 != 0) = true := by simp [hq0]
    obtain ⟨P, hP⟩ : ∃ k, n1 * d2 = k := ⟨_, rfl⟩
    obtain ⟨Q, hQ⟩ : ∃ k, n2 * d1 = k := ⟨_, rfl⟩
    obtain ⟨DN, hDN⟩ : ∃ k, d1 * d2 = k := ⟨_, rfl⟩
    have HR : Hid (SumR g1 g2 P Q DN (x + y)) := Lib.hid (by have := SumR.ne (g1 := g1) (g2 := g2) (n1 := n1) (n2 := n2) hd1 hd2; rwa [HX1.out, HX2.out, hP, hQ, hDN] at this)
    rw [hP] at hr1 hqs
    rw [hQ] at hr2 hqs
    rw [hDN] at hr3 hr4 hq3
    have hqd : DN ≤ DB := by omega
    have hPQ : P + Q ≤ NB := by omega
    have HP := Lib.hid hP
    have HQ := Lib.hid hQ
    have HDN := Lib.hid hDN
    obtain ⟨kp, hkp⟩ : ∃ k, Hid ((limbs P).length = k) := ⟨_, Lib.hid rfl⟩
    obtain ⟨kq, hkq⟩ : ∃ k, Hid ((limbs Q).length = k) := ⟨_, Lib.hid rfl⟩
    obtain ⟨kd, hkd⟩ : ∃ k, Hid ((limbs DN).length = k) := ⟨_, Lib.hid rfl⟩
    have bp : kp ≤ 1000000000 := by rw [← hkp.out]; exact hM.len (by omega)
    have bq : kq ≤ 1000000000 := by rw [← hkq.out]; exact hM.len (by omega)
    clear hde hq0 hP hQ hDN
    go_upto_region 3 with (go_at_call 78; (with_reducible refine (compare_any hS1.out.fz S2.out S4.out l2 l4 (by omega) (by omega) hc0).mono ?_); rintro e w5 ⟨rfl, hb5⟩; have H0 := Lib.hid (hS1.out.callB hb5); clear hb5)
    have hS2 : Hid (FpS 85 w φ φ2 φ2 (bb + 1 + 1) w5.drew) := Lib.hid (H0.out.callB (bdrewN (Below.refl _ w5) 1))
    clear y0 y1 y2 y3 y4 y5 x0 x1 x2 x3 x4 x5
    obtain ⟨x0, x1, x2, x3, x4, x5⟩ := hbox.out _ _ hS2
    go_region_held3 (fun w' => w'.cell? ⟨bb, 1, none⟩ = some (.slice a1 p1 c1) ∧ w'.cell? ⟨bb, 2, none⟩ = some (.slice a2 p2 c2) ∧ w'.cell? ⟨bb + 1, 1, none⟩ = some (.slice a3 p3 c3) ∧ w'.cell? ⟨bb + 1, 2, none⟩ = some (.slice a4 p4 c4)) (first | with_reducible exact ⟨x1, x2, x4, x5⟩ | with_reducible exact ⟨by assumption, by assumption, by assumption, by assumption⟩) (first
      | ((with_reducible refine (times_any (m := n1) (n := d2) hS2.out.fz S1.out S4.out l1 l4 (by omega) (by omega)).mono ?_); rintro e w3 ⟨a5, c5, φ3, rfl, hi3, hs3⟩; rw [HP.out, hkp.out]; rw [HP.out] at hs3; have H3 := Lib.hid (hS2.out.call hi3); have SP := Lib.hid hs3; obtain ⟨y0, y1, y2, y3, y4, y5⟩ := hbox.out _ _ H3)
      | ((with_reducible refine (times_any (m := n2) (n := d1) H3.out.fz (S3.out.mono H3.out.le) (S2.out.mono H3.out.le) l3 l2 (by omega) (by omega)).mono ?_); rintro e w4 ⟨a6, c6, φ4, rfl, hi4, hs4⟩; rw [HQ.out, hkq.out]; rw [HQ.out] at hs4; have H4 := Lib.hid (H3.out.call hi4); have L4 := Lib.hid hi4.le; have SQ := Lib.hid hs4; obtain ⟨y0, y1, y2, y3, y4, y5⟩ := hbox.out _ _ H4))
    go_upto_region 5 with (go_at_call 54; (with_reducible refine (times_any (m := d1) (n := d2) H4.out.fz (S2.out.mono H4.out.le) (S4.out.mono H4.out.le) l2 l4 (by omega) (by omega)).mono ?_); rintro e w9 ⟨a0, c0, φ5, rfl, hi5, hs5⟩; rw [HDN.out, hkd.out]; rw [HDN.out] at hs5; have H5 := Lib.hid (H4.out.call hi5); have SD5 := Lib.hid hs5; have SP5 := Lib.hid ((SP.out.mono L4.out).mono hi5.le); have SQ5 := Lib.hid (SQ.out.mono hi5.le); clear hi5 hs5)
    clear x0 x1 x2 x3 x4 x5 H3 H4 SP SQ hS0 hS1 hS2 H0 hr1 hr2 hr3 hr4
    obtain ⟨y0, y1, y2, y3, y4, y5⟩ := hbox.out _ _ H5
    by_cases hg : g1 = g2
    · subst hg
      have hgb : (g1 == g1) = true := by simp
      obtain ⟨kr, hkr⟩ : ∃ k, Hid ((limbs (P + Q)).length = k) := ⟨_, Lib.hid rfl⟩
      have HX : Hid (rat g1 (P + Q) DN = x + y) := Lib.hid (HR.out.same rfl)
      have hqr : P + Q ≤ NB := by omega
      go_wp2
      have H4d : Hid (FpS 85 w φ φ2 φ5 (bb + 1 + 1) w9.drew) := Lib.hid (H5.out.callB (bdrewN (Below.refl _ w9) 1))
      obtain ⟨x0, _, _, x3, _, _⟩ := hbox.out _ _ H5
      have x0d : w9.drew.cell? ⟨bb, 0, none⟩ = some (.bool g1) := x0
      have x3d : w9.drew.cell? ⟨bb + 1, 0, none⟩ = some (.bool g1) := x3
      clear y0
      go_region_held3 (fun w' => w'.cell? ⟨bb, 0, none⟩ = some (.bool g1) ∧ w'.cell? ⟨bb + 1, 0, none⟩ = some (.bool g1)) (first | with_reducible exact ⟨x0d, x3d⟩ | with_reducible exact ⟨by assumption, by assumption⟩ | exact ⟨keep3 (by with_reducible assumption) (show bb + 1 + 1 ≠ bb by omega), keep3 (by with_reducible assumption) (show bb + 1 + 1 ≠ bb + 1 by omega)⟩)
        (((with_reducible refine (plus_any H4d.out.fz SP5.out SQ5.out hkp hkq (by omega) (by omega)).mono ?_); rintro e w6 ⟨a7, c7, φ6, rfl, hi6, hs6⟩; rw [hkr.out]; have H6 := Lib.hid (H4d.out.call hi6); have L6 := Lib.hid hi6.le; have SR := Lib.hid hs6; obtain ⟨y0, _, _, y3, _, _⟩ := hbox.out _ _ H6; obtain ⟨z0, z1, z2, z3, z4, z5⟩ := H6.out.rs.facts))
      go_wp2
      have hIZ := Lib.hid (((H6.out.rs.inv.setCell H6.out.rs.l H6.out.rs.f (off := 0) (Value.bool g1)).setCell H6.out.rs.l H6.out.rs.f (off := 1) (Value.slice a7 kr c7)).setCell H6.out.rs.l H6.out.rs.f (off := 2) (Value.slice a0 kd c0))
      have hBZ := Lib.hid (((H6.out.rs.k.set 0 (Value.bool g1)).set 1 (Value.slice a7 kr c7)).set 2 (Value.slice a0 kd c0))
      have e0 : _ = some (Value.bool g1) := hBZ.out.cell 0
      have e1 : _ = some (Value.slice a7 kr c7) := hBZ.out.cell 1
      have e2 : _ = some (Value.slice a0 kd c0) := hBZ.out.cell 2
      (try simp only [Exit.inBlock, Exit.then])
      refine bodyPost_ret (v := .agg #[(Value.bool g1), (Value.slice a7 kr c7), (Value.slice a0 kd c0)]) (by simp [results, Tryz.results53, go_sem, e0, e1, e2]) rfl ?_
      exact ⟨_, φ6, rfl, hIZ.out, g1, (P + Q), DN, a7, c7, a0, c0, by rw [hkr.out, hkd.out], SR.out, SD5.out.mono L6.out, HR.out.pos, hqr, hqd, HX.out⟩
    · have hg2 : g2 = !g1 := by cases g1 <;> cases g2 <;> simp_all
      subst hg2
      have hgb : (g1 == !g1) = false := by cases g1 <;> rfl
      clear hg
      by_cases hle : Q ≤ P
      · obtain ⟨cq, hcq⟩ : ∃ q, Hid (cmpN P Q = q) := ⟨_, Lib.hid rfl⟩
        have hcq0 : 0 ≤ cq := by rw [← hcq.out, cmpN, if_neg (by omega)]; split <;> omega
        obtain ⟨kr, hkr⟩ : ∃ k, Hid ((limbs (P - Q)).length = k) := ⟨_, Lib.hid rfl⟩
        have HX : Hid (rat g1 (P - Q) DN = x + y) := Lib.hid (HR.out.left rfl hle)
        have hqr : P - Q ≤ NB := by omega
        go_wp2_with (go_at_call 78; refine (compare_any H5.out.fz SP5.out SQ5.out hkp hkq (by omega) (by omega) hcq).mono ?_; rintro e w8 ⟨rfl, hb8⟩; have H8 := Lib.hid (H5.out.callB hb8); clear hb8; obtain ⟨u0, u1, u2, u3, u4, u5⟩ := hbox.out _ _ H8)
        have H4d : Hid (FpS 85 w φ φ2 φ5 (bb + 1 + 1) w8.drew) := Lib.hid (H8.out.callB (bdrewN (Below.refl _ w8) 1))
        obtain ⟨x0, _, _, x3, _, _⟩ := hbox.out _ _ H8
        have x0d : w8.drew.cell? ⟨bb, 0, none⟩ = some (.bool g1) := x0
        have x3d : w8.drew.cell? ⟨bb + 1, 0, none⟩ = some (.bool (!g1)) := x3
        clear u0
        go_region_held3 (fun w' => w'.cell? ⟨bb, 0, none⟩ = some (.bool g1) ∧ w'.cell? ⟨bb + 1, 0, none⟩ = some (.bool (!g1))) (first | with_reducible exact ⟨x0d, x3d⟩ | with_reducible exact ⟨by assumption, by assumption⟩ | exact ⟨keep3 (by with_reducible assumption) (show bb + 1 + 1 ≠ bb by omega), keep3 (by with_reducible assumption) (show bb + 1 + 1 ≠ bb + 1 by omega)⟩)
          (((with_reducible refine (minus_any H4d.out.fz SP5.out SQ5.out hkp hkq (by omega) hle).mono ?_); rintro e w6 ⟨a7, c7, φ6, rfl, hi6, hs6⟩; rw [hkr.out]; have H6 := Lib.hid (H4d.out.call hi6); have L6 := Lib.hid hi6.le; have SR := Lib.hid hs6; obtain ⟨y0, _, _, y3, _, _⟩ := hbox.out _ _ H6; obtain ⟨z0, z1, z2, z3, z4, z5⟩ := H6.out.rs.facts))
        go_wp2
        have hIZ := Lib.hid (((H6.out.rs.inv.setCell H6.out.rs.l H6.out.rs.f (off := 0) (Value.bool g1)).setCell H6.out.rs.l H6.out.rs.f (off := 1) (Value.slice a7 kr c7)).setCell H6.out.rs.l H6.out.rs.f (off := 2) (Value.slice a0 kd c0))
        have hBZ := Lib.hid (((H6.out.rs.k.set 0 (Value.bool g1)).set 1 (Value.slice a7 kr c7)).set 2 (Value.slice a0 kd c0))
        have e0 : _ = some (Value.bool g1) := hBZ.out.cell 0
        have e1 : _ = some (Value.slice a7 kr c7) := hBZ.out.cell 1
        have e2 : _ = some (Value.slice a0 kd c0) := hBZ.out.cell 2
        (try simp only [Exit.inBlock, Exit.then])
        refine bodyPost_ret (v := .agg #[(Value.bool g1), (Value.slice a7 kr c7), (Value.slice a0 kd c0)]) (by simp [results, Tryz.results53, go_sem, e0, e1, e2]) rfl ?_
        exact ⟨_, φ6, rfl, hIZ.out, g1, (P - Q), DN, a7, c7, a0, c0, by rw [hkr.out, hkd.out], SR.out, SD5.out.mono L6.out, HR.out.pos, hqr, hqd, HX.out⟩
      · obtain ⟨cq, hcq⟩ : ∃ q, Hid (cmpN P Q = q) := ⟨_, Lib.hid rfl⟩
        have hcq0 : ¬ 0 ≤ cq := by rw [← hcq.out, cmpN, if_pos (by omega)]; omega
        obtain ⟨kr, hkr⟩ : ∃ k, Hid ((limbs (Q - P)).length = k) := ⟨_, Lib.hid rfl⟩
        have HX : Hid (rat (!g1) (Q - P) DN = x + y) := Lib.hid (HR.out.right rfl (by omega))
        have hqr : Q - P ≤ NB := by omega
        go_wp2_with (go_at_call 78; refine (compare_any H5.out.fz SP5.out SQ5.out hkp hkq (by omega) (by omega) hcq).mono ?_; rintro e w8 ⟨rfl, hb8⟩; have H8 := Lib.hid (H5.out.callB hb8); clear hb8; obtain ⟨u0, u1, u2, u3, u4, u5⟩ := hbox.out _ _ H8)
        have H4d : Hid (FpS 85 w φ φ2 φ5 (bb + 1 + 1) w8.drew) := Lib.hid (H8.out.callB (bdrewN (Below.refl _ w8) 1))
        obtain ⟨x0, _, _, x3, _, _⟩ := hbox.out _ _ H8
        have x0d : w8.drew.cell? ⟨bb, 0, none⟩ = some (.bool g1) := x0
        have x3d : w8.drew.cell? ⟨bb + 1, 0, none⟩ = some (.bool (!g1)) := x3
        clear u0
        go_region_held3 (fun w' => w'.cell? ⟨bb, 0, none⟩ = some (.bool g1) ∧ w'.cell? ⟨bb + 1, 0, none⟩ = some (.bool (!g1))) (first | with_reducible exact ⟨x0d, x3d⟩ | with_reducible exact ⟨by assumption, by assumption⟩ | exact ⟨keep3 (by with_reducible assumption) (show bb + 1 + 1 ≠ bb by omega), keep3 (by with_reducible assumption) (show bb + 1 + 1 ≠ bb + 1 by omega)⟩)
          (((with_reducible refine (minus_any H4d.out.fz SQ5.out SP5.out hkq hkp (by omega) (by omega)).mono ?_); rintro e w6 ⟨a7, c7, φ6, rfl, hi6, hs6⟩; rw [hkr.out]; have H6 := Lib.hid (H4d.out.call hi6); have L6 := Lib.hid hi6.le; have SR := Lib.hid hs6; obtain ⟨y0, _, _, y3, _, _⟩ := hbox.out _ _ H6; obtain ⟨z0, z1, z2, z3, z4, z5⟩ := H6.out.rs.facts))
        go_wp2
        have hIZ := Lib.hid (((H6.out.rs.inv.setCell H6.out.rs.l H6.out.rs.f (off := 0) (Value.bool (!g1))).setCell H6.out.rs.l H6.out.rs.f (off := 1) (Value.slice a7 kr c7)).setCell H6.out.rs.l H6.out.rs.f (off := 2) (Value.slice a0 kd c0))
        have hBZ := Lib.hid (((H6.out.rs.k.set 0 (Value.bool (!g1))).set 1 (Value.slice a7 kr c7)).set 2 (Value.slice a0 kd c0))
        have e0 : _ = some (Value.bool (!g1)) := hBZ.out.cell 0
        have e1 : _ = some (Value.slice a7 kr c7) := hBZ.out.cell 1
        have e2 : _ = some (Value.slice a0 kd c0) := hBZ.out.cell 2
        (try simp only [Exit.inBlock, Exit.then])
        refine bodyPost_ret (v := .agg #[(Value.bool (!g1)), (Value.slice a7 kr c7), (Value.slice a0 kd c0)]) (by simp [results, Tryz.results53, go_sem, e0, e1, e2]) rfl ?_
        exact ⟨_, φ6, rfl, hIZ.out, (!g1), (Q - P), DN, a7, c7, a0, c0, by rw [hkr.out, hkd.out], SR.out, SD5.out.mono L6.out, HR.out.pos, hqr, hqd, HX.out⟩
end Go.Proofs.YtngogjookldidaaGreatDoor
