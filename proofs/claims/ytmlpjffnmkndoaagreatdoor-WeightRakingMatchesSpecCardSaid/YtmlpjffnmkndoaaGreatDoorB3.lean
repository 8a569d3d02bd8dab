/- The reference's natural numbers: the walk of plus. Conditions: none beyond what the claim form gives. -/
import Derived.Test.YtmlpjffnmkndoaaGreatDoorB2
namespace Go.Proofs.YtmlpjffnmkndoaaGreatDoor
open Go.RowKit
set_option linter.unusedVariables false
set_option linter.unusedSimpArgs false
theorem LV_snoc (xs : List Nat) (q : Nat) : LV (xs ++ [q]) = LV xs + lb ^ xs.length * q := by
 rw [LV_append]; simp [LV]
/-- One limb more of a sum. -/
theorem add_step {D L c c' q s x y K U V : Nat} (h1 : L + c * K = U + V) (h2 : s = c + x + y) (h3 : s = D * c' + q) : L + K * q + c' * (K * D) = (U + K * x) + (V + K * y) := by
 have h4 : K * (c + x + y) = K * (D * c' + q) := by rw [← h2, h3]
 rw [Nat.mul_add, Nat.mul_add, Nat.mul_add] at h4
 have h5 : c' * (K * D) = K * (D * c') := by rw [Nat.mul_comm c', Nat.mul_assoc]
 have h6 : K * c = c * K := Nat.mul_comm _ _
 omega
set_option maxRecDepth 100000 in
set_option maxHeartbeats 4000000 in
theorem Rplus_any {m n na nb : Nat} {a b : Option Addr} {ca cb : Nat} {w : World} {φ : Phi} (hφ : Fz φ w) (sa : SlV φ a ca (limbs m)) (sb : SlV φ b cb (limbs n)) (hna : Hid ((limbs m).length = na)) (hnb : Hid ((limbs n).length = nb)) (h4a : na ≤ 4000000000) (h4b : nb ≤ 4000000000) :
  Calls Tryz.prog 82 #[.slice a na ca, .slice b nb cb] w (NatI (m + n) φ w) := by
 have hS0 : Hid (OwSt w φ 3 none 0 ([] : List Nat) w) := Lib.hid ⟨Inv.start hφ, Own.nil _ _ _ _⟩
 obtain ⟨mx, hmx⟩ : ∃ mx, mx = max na nb := ⟨_, rfl⟩
 have hmi : max (na : Int) (nb : Int) = (mx : Int) := by omega
 have hmx4 : mx ≤ 4000000000 := by omega
 have HMI := Lib.hid hmi
 have hLa : Hid (Lim (limbs m)) := Lib.hid (limbs_lim m)
 have hLb : Hid (Lim (limbs n)) := Lib.hid (limbs_lim n)
 have hma : Hid (LV (limbs m) = m) := Lib.hid (LV_limbs m)
 have hmb : Hid (LV (limbs n) = n) := Lib.hid (LV_limbs n)
 generalize limbs m = A at *
 generalize limbs n = B at *
 clear hmi
 go_enter Tryz.func82, Tryz.ntmps82
 go_wp2
 go_loopw [5, 6, 7] (fun ov cv iv wr => ∃ (i c : Nat) (ao : Option Addr) (co : Nat) (os : List Nat), i ≤ mx + 1 ∧ c ≤ 1 ∧ (i = mx + 1 → c = 0) ∧ ov = .slice ao os.length co ∧ cv = .int .i64 (c : Int) ∧ iv = .int .i64 (i : Int) ∧ Hid (os.length = i) ∧ Hid (Lim os) ∧ Hid (LV os + c * lb ^ i = LV (A.take i) + LV (B.take i)) ∧ Hid (OwSt w φ 3 ao co os wr)) (fun _ _ iv _ => mx + 1 - (intOf iv).toNat)
 case atStart => exact ⟨0, 0, none, 0, [], by omega, by omega, fun _ => rfl, rfl, rfl, rfl, Lib.hid rfl, Lib.hid (fun x hx => by simp at hx), Lib.hid (by simp [LV]), hS0⟩
 case round =>
  clear hS0
  obtain ⟨i, c, ao, co, os, hi, hc, hic, rfl, rfl, rfl, hol, hoL, hinv, hS⟩ := hrel
  have hol4 : os.length ≤ 4000000001 := by rw [hol.out]; omega
  by_cases hend : mx ≤ i ∧ c = 0
  ·obtain ⟨hmi, rfl⟩ := hend
   have hfin : Hid (LV os = m + n) := Lib.hid (by
    have h := hinv.out
    rw [Nat.zero_mul, Nat.add_zero, List.take_of_length_le (by rw [hna.out]; omega), List.take_of_length_le (by rw [hnb.out]; omega), hma.out, hmb.out] at h
    exact h)
   have hnlt : ¬ (i : Int) < max (na : Int) (nb : Int) := by rw [HMI.out]; omega
   obtain ⟨φ', _, hi', hs, _⟩ := hS.out.own.release hS.out.inv
   have HS' := Lib.hid hs
   have HI' := Lib.hid hi'
   obtain ⟨ol, hol2⟩ : ∃ ol, ol = os.length := ⟨_, rfl⟩
   rw [← hol2]
   have hoL2 : Hid (os.length = ol) := Lib.hid hol2.symm
   have hol5 : ol ≤ 4000000001 := by omega
   clear hi' hs hol2
   obtain ⟨q, hq⟩ : ∃ q, Hid ((limbs (LV os)).length = q) := ⟨_, Lib.hid rfl⟩
   go_wp2_with (go_at_call 102; refine (Rtrim_any HI'.out.fz HS'.out hoL2 (by omega) hoL hq).mono ?_; rintro e w' ⟨rfl, rfl⟩)
   all_goals
    go_ret
    refine ⟨ao, co, φ', ?_, HI'.out, HS'.out.trimI hoL.out hfin.out⟩
    rw [← hfin.out, hq.out]; rfl
  ·obtain ⟨x, hx⟩ : ∃ x, Hid (A.getD i 0 = x) := ⟨_, Lib.hid rfl⟩
   obtain ⟨y, hy⟩ : ∃ y, Hid (B.getD i 0 = y) := ⟨_, Lib.hid rfl⟩
   have hxl : x < 1000000000 := by rw [← hx.out]; exact hLa.out.getD _
   have hyl : y < 1000000000 := by rw [← hy.out]; exact hLb.out.getD _
   have hx0 : na ≤ i → x = 0 := fun h => by rw [← hx.out, List.getD_eq_getElem?_getD, List.getElem?_eq_none (by rw [hna.out]; exact h)]; rfl
   have hy0 : nb ≤ i → y = 0 := fun h => by rw [← hy.out, List.getD_eq_getElem?_getD, List.getElem?_eq_none (by rw [hnb.out]; exact h)]; rfl
   obtain ⟨S, hSe⟩ : ∃ S, Hid (S = c + x + y) := ⟨_, Lib.hid rfl⟩
   have hq9 : S % lb < lb := Nat.mod_lt _ lb_pos
   have hc9 : S / lb ≤ 1 := by
    have : S < lb * 2 := by rw [hSe.out]; show _ < 2000000000; omega
    have := (Nat.div_lt_iff_lt_mul lb_pos).2 (by rw [Nat.mul_comm]; exact this)
    omega
   have him : i ≤ mx := by
    rcases Nat.lt_or_ge mx i with q | q
    ·exfalso; exact hend ⟨by omega, hic (by omega)⟩
    ·exact q
   have hz9 : Hid (i + 1 = mx + 1 → S / lb = 0) := Lib.hid (fun h => by
    rw [hSe.out, hx0 (by omega), hy0 (by omega)]; exact Nat.div_eq_of_lt (by show _ < 1000000000; omega))
   have hnext : Hid (LV (os ++ [S % lb]) + S / lb * lb ^ (i + 1) = LV (A.take (i + 1)) + LV (B.take (i + 1))) := Lib.hid (by
    rw [LV_take, LV_take, hx.out, hy.out, LV_snoc, hol.out, Nat.pow_succ]
    exact add_step hinv.out hSe.out (Nat.div_add_mod S lb).symm)
   by_cases hia : i < na
   ·obtain ⟨ba, oa, rfl, f⟩ := sa.natI hna hia
    obtain ⟨_, d1⟩ := f i hia wr hS.out.inv.fz
    rw [hx.out] at d1
    have hlt : (i : Int) < max (na : Int) (nb : Int) := by rw [HMI.out]; omega
    have hi1 : (i : Int) < (na : Int) := by omega
    clear f hx0
    by_cases hib : i < nb
    ·obtain ⟨bb, ob, rfl, f2⟩ := sb.natI hnb hib
     obtain ⟨_, d2⟩ := f2 i hib wr hS.out.inv.fz
     rw [hy.out] at d2
     have hi2 : (i : Int) < (nb : Int) := by omega
     clear f2 hy0
     have hSm : Hid (((c : Int) + (x : Int) + (y : Int)) % 1000000000 = ((S % lb : Nat) : Int)) := Lib.hid (by
      have e1 : (c : Int) + (x : Int) + (y : Int) = ((c + x + y : Nat) : Int) := by omega
      rw [hSe.out, e1]; rfl)
     have hSd : Hid (((c : Int) + (x : Int) + (y : Int)) / 1000000000 = ((S / lb : Nat) : Int)) := Lib.hid (by
      have e1 : (c : Int) + (x : Int) + (y : Int) = ((c + x + y : Nat) : Int) := by omega
      rw [hSe.out, e1]; rfl)
     have hin := Lib.hid hS.out.inv
     have hon := Lib.hid hS.out.own
     clear hS
     go_wp2_with (at_builtin; (refine wpList_app1F (α := Nat) rfl _ _ 34 rfl slNatI hin.out ao co _ hon.out _ _ (S % lb) (by show [Value.int .i64 (((c : Int) + (x : Int) + (y : Int)) % 1000000000)] = [Value.int .i64 ((S % lb : Nat) : Int)]; rw [hSm.out]) rfl 1 rfl (by omega) ?_; intro a8 c8 w8 hi8 ho8 hg8 hf8))
     all_goals
      rw [hSd.out]
      go_roundw
      case rel => exact ⟨i + 1, S / lb, a8, c8, os ++ [S % lb], by omega, hc9, hz9.out, by simp, rfl, by go_num, Lib.hid (by rw [List.length_append, hol.out]; rfl), Lib.hid (hoL.out.append (Lim.one hq9)), hnext, Lib.hid ⟨hi8, ho8⟩⟩
      case measure => simp [intOf]; omega
    ·have hyz : y = 0 := hy0 (by omega)
     have hi2 : ¬ (i : Int) < (nb : Int) := by omega
     have hyq := 0
     clear hy0
     have hSm : Hid (((c : Int) + (x : Int)) % 1000000000 = ((S % lb : Nat) : Int)) := Lib.hid (by
      have e1 : (c : Int) + (x : Int) = ((c + x + y : Nat) : Int) := by omega
      rw [hSe.out, e1]; rfl)
     have hSd : Hid (((c : Int) + (x : Int)) / 1000000000 = ((S / lb : Nat) : Int)) := Lib.hid (by
      have e1 : (c : Int) + (x : Int) = ((c + x + y : Nat) : Int) := by omega
      rw [hSe.out, e1]; rfl)
     have hin := Lib.hid hS.out.inv
     have hon := Lib.hid hS.out.own
     clear hS
     go_wp2_with (at_builtin; (refine wpList_app1F (α := Nat) rfl _ _ 34 rfl slNatI hin.out ao co _ hon.out _ _ (S % lb) (by show [Value.int .i64 (((c : Int) + (x : Int)) % 1000000000)] = [Value.int .i64 ((S % lb : Nat) : Int)]; rw [hSm.out]) rfl 1 rfl (by omega) ?_; intro a8 c8 w8 hi8 ho8 hg8 hf8))
     all_goals
      rw [hSd.out]
      go_roundw
      case rel => exact ⟨i + 1, S / lb, a8, c8, os ++ [S % lb], by omega, hc9, hz9.out, by simp, rfl, by go_num, Lib.hid (by rw [List.length_append, hol.out]; rfl), Lib.hid (hoL.out.append (Lim.one hq9)), hnext, Lib.hid ⟨hi8, ho8⟩⟩
      case measure => simp [intOf]; omega
   ·have hxz : x = 0 := hx0 (by omega)
    have hi1 : ¬ (i : Int) < (na : Int) := by omega
    have hxq := 0
    clear hx0
    by_cases hib : i < nb
    ·obtain ⟨bb, ob, rfl, f2⟩ := sb.natI hnb hib
     obtain ⟨_, d2⟩ := f2 i hib wr hS.out.inv.fz
     rw [hy.out] at d2
     have hlt : (i : Int) < max (na : Int) (nb : Int) := by rw [HMI.out]; omega
     have hi2 : (i : Int) < (nb : Int) := by omega
     clear f2 hy0
     have hSm : Hid (((c : Int) + (y : Int)) % 1000000000 = ((S % lb : Nat) : Int)) := Lib.hid (by
      have e1 : (c : Int) + (y : Int) = ((c + x + y : Nat) : Int) := by omega
      rw [hSe.out, e1]; rfl)
     have hSd : Hid (((c : Int) + (y : Int)) / 1000000000 = ((S / lb : Nat) : Int)) := Lib.hid (by
      have e1 : (c : Int) + (y : Int) = ((c + x + y : Nat) : Int) := by omega
      rw [hSe.out, e1]; rfl)
     have hin := Lib.hid hS.out.inv
     have hon := Lib.hid hS.out.own
     clear hS
     go_wp2_with (at_builtin; (refine wpList_app1F (α := Nat) rfl _ _ 34 rfl slNatI hin.out ao co _ hon.out _ _ (S % lb) (by show [Value.int .i64 (((c : Int) + (y : Int)) % 1000000000)] = [Value.int .i64 ((S % lb : Nat) : Int)]; rw [hSm.out]) rfl 1 rfl (by omega) ?_; intro a8 c8 w8 hi8 ho8 hg8 hf8))
     all_goals
      rw [hSd.out]
      go_roundw
      case rel => exact ⟨i + 1, S / lb, a8, c8, os ++ [S % lb], by omega, hc9, hz9.out, by simp, rfl, by go_num, Lib.hid (by rw [List.length_append, hol.out]; rfl), Lib.hid (hoL.out.append (Lim.one hq9)), hnext, Lib.hid ⟨hi8, ho8⟩⟩
      case measure => simp [intOf]; omega
    ·have hyz : y = 0 := hy0 (by omega)
     have hlt : ¬ (i : Int) < max (na : Int) (nb : Int) := by rw [HMI.out]; omega
     have hc0 : (0 : Int) < (c : Int) := by omega
     have hi2 : ¬ (i : Int) < (nb : Int) := by omega
     have hyq := 0
     clear hy0
     have hSm : Hid (((c : Int)) % 1000000000 = ((S % lb : Nat) : Int)) := Lib.hid (by
      have e1 : (c : Int) = ((c + x + y : Nat) : Int) := by omega
      rw [hSe.out, e1]; rfl)
     have hSd : Hid (((c : Int)) / 1000000000 = ((S / lb : Nat) : Int)) := Lib.hid (by
      have e1 : (c : Int) = ((c + x + y : Nat) : Int) := by omega
      rw [hSe.out, e1]; rfl)
     have hin := Lib.hid hS.out.inv
     have hon := Lib.hid hS.out.own
     clear hS
     go_wp2_with (at_builtin; (refine wpList_app1F (α := Nat) rfl _ _ 34 rfl slNatI hin.out ao co _ hon.out _ _ (S % lb) (by show [Value.int .i64 (((c : Int)) % 1000000000)] = [Value.int .i64 ((S % lb : Nat) : Int)]; rw [hSm.out]) rfl 1 rfl (by omega) ?_; intro a8 c8 w8 hi8 ho8 hg8 hf8))
     all_goals
      rw [hSd.out]
      go_roundw
      case rel => exact ⟨i + 1, S / lb, a8, c8, os ++ [S % lb], by omega, hc9, hz9.out, by simp, rfl, by go_num, Lib.hid (by rw [List.length_append, hol.out]; rfl), Lib.hid (hoL.out.append (Lim.one hq9)), hnext, Lib.hid ⟨hi8, ho8⟩⟩
      case measure => simp [intOf]; omega
end Go.Proofs.YtmlpjffnmkndoaaGreatDoor
