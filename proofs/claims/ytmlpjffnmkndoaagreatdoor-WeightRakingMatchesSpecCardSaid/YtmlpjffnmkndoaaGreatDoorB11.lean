/- The reference's natural numbers: the walk of minus. Conditions: none beyond what the claim form gives. -/
import Derived.Test.YtmlpjffnmkndoaaGreatDoorB10
namespace Go.Proofs.YtmlpjffnmkndoaaGreatDoor
open Go.RowKit
set_option linter.unusedVariables false
set_option linter.unusedSimpArgs false
/-- One limb more of a difference. -/
theorem sub_step {L Bv Av br K d y x br' : Nat} (h1 : L + Bv = Av + br * K) (h2 : d + br + y = x + lb * br') : L + K * d + (Bv + K * y) = (Av + K * x) + br' * (K * lb) := by
 have h3 : K * (d + br + y) = K * (x + lb * br') := by rw [h2]
 rw [Nat.mul_add, Nat.mul_add, Nat.mul_add] at h3
 have h4 : br' * (K * lb) = K * (lb * br') := by rw [Nat.mul_comm br', Nat.mul_assoc]
 have h5 : K * br = br * K := Nat.mul_comm _ _
 omega
set_option maxRecDepth 100000 in
set_option maxHeartbeats 4000000 in
theorem Rminus_any {m n na nb : Nat} {a b : Option Addr} {ca cb : Nat} {w : World} {φ : Phi} (hφ : Fz φ w) (sa : SlV φ a ca (limbs m)) (sb : SlV φ b cb (limbs n)) (hna : Hid ((limbs m).length = na)) (hnb : Hid ((limbs n).length = nb)) (h4a : na ≤ 4000000000) (hle : n ≤ m) :
  Calls Tryz.prog 85 #[.slice a na ca, .slice b nb cb] w (NatI (m - n) φ w) := by
 have hS0 : Hid (OwSt w φ 3 none 0 ([] : List Nat) w) := Lib.hid ⟨Inv.start hφ, Own.nil _ _ _ _⟩
 have hLa : Hid (Lim (limbs m)) := Lib.hid (limbs_lim m)
 have hLb : Hid (Lim (limbs n)) := Lib.hid (limbs_lim n)
 have hma : Hid (LV (limbs m) = m) := Lib.hid (LV_limbs m)
 have hmb : Hid (LV (limbs n) = n) := Lib.hid (LV_limbs n)
 have hlen : nb ≤ na := by rw [← hna.out, ← hnb.out]; exact limbs_mono hle
 generalize limbs m = A at *
 generalize limbs n = B at *
 go_enter Tryz.func85, Tryz.ntmps85
 go_wp2
 go_loopw [5, 6, 7, 8, 11] (fun ov bv tv uv iv wr => ∃ (i br : Nat) (ao : Option Addr) (co : Nat) (os : List Nat), i ≤ na ∧ br ≤ 1 ∧ ov = .slice ao os.length co ∧ bv = .int .i64 (br : Int) ∧ iv = .int .i64 (i : Int) ∧ Hid (os.length = i) ∧ Hid (Lim os) ∧ Hid (LV os + LV (B.take i) = LV (A.take i) + br * lb ^ i) ∧ Hid (OwSt w φ 3 ao co os wr)) (fun _ _ _ _ iv _ => na - (intOf iv).toNat)
 case atStart => exact ⟨0, 0, none, 0, [], by omega, by omega, rfl, rfl, rfl, Lib.hid rfl, Lib.hid (fun x hx => by simp at hx), Lib.hid (by simp [LV]), hS0⟩
 case round =>
  clear hS0
  obtain ⟨i, br, ao, co, os, hi, hbr, rfl, rfl, rfl, hol, hoL, hinv, hS⟩ := hrel
  have hol4 : os.length ≤ 4000000001 := by rw [hol.out]; omega
  by_cases hia : i < na
  ·obtain ⟨x, hx⟩ : ∃ x, Hid (A.getD i 0 = x) := ⟨_, Lib.hid rfl⟩
   obtain ⟨y, hy⟩ : ∃ y, Hid (B.getD i 0 = y) := ⟨_, Lib.hid rfl⟩
   have hxl : x < 1000000000 := by rw [← hx.out]; exact hLa.out.getD _
   have hyl : y < 1000000000 := by rw [← hy.out]; exact hLb.out.getD _
   obtain ⟨ba, oa, rfl, f⟩ := sa.natI hna hia
   obtain ⟨_, d1⟩ := f i hia wr hS.out.inv.fz
   rw [hx.out] at d1
   have hi1 : (i : Int) < (na : Int) := by omega
   clear f
   by_cases hib : i < nb
   ·obtain ⟨bb, ob, rfl, f2⟩ := sb.natI hnb hib
    obtain ⟨_, d2⟩ := f2 i hib wr hS.out.inv.fz
    rw [hy.out] at d2
    have hi2 : (i : Int) < (nb : Int) := by omega
    clear f2
    by_cases hneg : x < br + y
    ·have hni : (x : Int) - (br : Int) - (y : Int) < 0 := by omega
     obtain ⟨d, hd0⟩ : ∃ d, d = x + 1000000000 - (br + y) := ⟨_, rfl⟩
     have hdl : d < 1000000000 := by omega
     have hd : Hid ((x : Int) - (br : Int) - (y : Int) + 1000000000 = (d : Int)) := Lib.hid (by omega)
     have hnext : Hid (LV (os ++ [d]) + LV (B.take (i + 1)) = LV (A.take (i + 1)) + 1 * lb ^ (i + 1)) := Lib.hid (by
      rw [LV_take, LV_take, hx.out, hy.out, LV_snoc, hol.out, Nat.pow_succ]
      exact sub_step hinv.out (by show d + br + y = x + 1000000000 * 1; omega))
     clear hd0 hneg
     have hin := Lib.hid hS.out.inv
     have hon := Lib.hid hS.out.own
     clear hS
     go_wp2_with (at_builtin; (refine wpList_app1F (α := Nat) rfl _ _ 34 rfl slNatI hin.out ao co _ hon.out _ _ d (by show [Value.int .i64 ((x : Int) - (br : Int) - (y : Int) + 1000000000)] = [Value.int .i64 (d : Int)]; rw [hd.out]) rfl 1 rfl (by omega) ?_; intro a8 c8 w8 hi8 ho8 hg8 hf8))
     go_roundw
     case rel => exact ⟨i + 1, 1, a8, c8, os ++ [d], by omega, by omega, by simp, rfl, by go_num, Lib.hid (by rw [List.length_append, hol.out]; rfl), Lib.hid (hoL.out.append (Lim.one hdl)), hnext, Lib.hid ⟨hi8, ho8⟩⟩
     case measure => simp [intOf]; omega
    ·have hni : ¬ (x : Int) - (br : Int) - (y : Int) < 0 := by omega
     obtain ⟨d, hd0⟩ : ∃ d, d = x - (br + y) := ⟨_, rfl⟩
     have hdl : d < 1000000000 := by omega
     have hd : Hid ((x : Int) - (br : Int) - (y : Int) = (d : Int)) := Lib.hid (by omega)
     have hnext : Hid (LV (os ++ [d]) + LV (B.take (i + 1)) = LV (A.take (i + 1)) + 0 * lb ^ (i + 1)) := Lib.hid (by
      rw [LV_take, LV_take, hx.out, hy.out, LV_snoc, hol.out, Nat.pow_succ]
      exact sub_step hinv.out (by omega))
     clear hd0 hneg
     have hin := Lib.hid hS.out.inv
     have hon := Lib.hid hS.out.own
     clear hS
     go_wp2_with (at_builtin; (refine wpList_app1F (α := Nat) rfl _ _ 34 rfl slNatI hin.out ao co _ hon.out _ _ d (by show [Value.int .i64 ((x : Int) - (br : Int) - (y : Int))] = [Value.int .i64 (d : Int)]; rw [hd.out]) rfl 1 rfl (by omega) ?_; intro a8 c8 w8 hi8 ho8 hg8 hf8))
     go_roundw
     case rel => exact ⟨i + 1, 0, a8, c8, os ++ [d], by omega, by omega, by simp, rfl, by go_num, Lib.hid (by rw [List.length_append, hol.out]; rfl), Lib.hid (hoL.out.append (Lim.one hdl)), hnext, Lib.hid ⟨hi8, ho8⟩⟩
     case measure => simp [intOf]; omega
   ·have hyz : y = 0 := by rw [← hy.out, List.getD_eq_getElem?_getD, List.getElem?_eq_none (by rw [hnb.out]; omega)]; rfl
    have hi2 : ¬ (i : Int) < (nb : Int) := by omega
    by_cases hneg : x < br + y
    ·have hni : (x : Int) - (br : Int) < 0 := by omega
     obtain ⟨d, hd0⟩ : ∃ d, d = x + 1000000000 - (br + y) := ⟨_, rfl⟩
     have hdl : d < 1000000000 := by omega
     have hd : Hid ((x : Int) - (br : Int) + 1000000000 = (d : Int)) := Lib.hid (by omega)
     have hnext : Hid (LV (os ++ [d]) + LV (B.take (i + 1)) = LV (A.take (i + 1)) + 1 * lb ^ (i + 1)) := Lib.hid (by
      rw [LV_take, LV_take, hx.out, hy.out, LV_snoc, hol.out, Nat.pow_succ]
      exact sub_step hinv.out (by show d + br + y = x + 1000000000 * 1; omega))
     clear hd0 hneg
     have hin := Lib.hid hS.out.inv
     have hon := Lib.hid hS.out.own
     clear hS
     go_wp2_with (at_builtin; (refine wpList_app1F (α := Nat) rfl _ _ 34 rfl slNatI hin.out ao co _ hon.out _ _ d (by show [Value.int .i64 ((x : Int) - (br : Int) + 1000000000)] = [Value.int .i64 (d : Int)]; rw [hd.out]) rfl 1 rfl (by omega) ?_; intro a8 c8 w8 hi8 ho8 hg8 hf8))
     go_roundw
     case rel => exact ⟨i + 1, 1, a8, c8, os ++ [d], by omega, by omega, by simp, rfl, by go_num, Lib.hid (by rw [List.length_append, hol.out]; rfl), Lib.hid (hoL.out.append (Lim.one hdl)), hnext, Lib.hid ⟨hi8, ho8⟩⟩
     case measure => simp [intOf]; omega
    ·have hni : ¬ (x : Int) - (br : Int) < 0 := by omega
     obtain ⟨d, hd0⟩ : ∃ d, d = x - (br + y) := ⟨_, rfl⟩
     have hdl : d < 1000000000 := by omega
     have hd : Hid ((x : Int) - (br : Int) = (d : Int)) := Lib.hid (by omega)
     have hnext : Hid (LV (os ++ [d]) + LV (B.take (i + 1)) = LV (A.take (i + 1)) + 0 * lb ^ (i + 1)) := Lib.hid (by
      rw [LV_take, LV_take, hx.out, hy.out, LV_snoc, hol.out, Nat.pow_succ]
      exact sub_step hinv.out (by omega))
     clear hd0 hneg
     have hin := Lib.hid hS.out.inv
     have hon := Lib.hid hS.out.own
     clear hS
     go_wp2_with (at_builtin; (refine wpList_app1F (α := Nat) rfl _ _ 34 rfl slNatI hin.out ao co _ hon.out _ _ d (by show [Value.int .i64 ((x : Int) - (br : Int))] = [Value.int .i64 (d : Int)]; rw [hd.out]) rfl 1 rfl (by omega) ?_; intro a8 c8 w8 hi8 ho8 hg8 hf8))
     go_roundw
     case rel => exact ⟨i + 1, 0, a8, c8, os ++ [d], by omega, by omega, by simp, rfl, by go_num, Lib.hid (by rw [List.length_append, hol.out]; rfl), Lib.hid (hoL.out.append (Lim.one hdl)), hnext, Lib.hid ⟨hi8, ho8⟩⟩
     case measure => simp [intOf]; omega
  ·obtain rfl : i = na := by omega
   have hil : ¬ (i : Int) < (i : Int) := by omega
   have hfin : Hid (LV os = m - n) := Lib.hid (by
    have h := hinv.out
    rw [List.take_of_length_le (by rw [hnb.out]; omega), List.take_of_length_le (by rw [hna.out]; exact Nat.le_refl _), hma.out, hmb.out] at h
    have hlt := LV_lt hoL.out
    rw [hol.out] at hlt
    have hb0 : br = 0 := by
     rcases Nat.eq_zero_or_pos br with q | q
     ·exact q
     ·have : br = 1 := by omega
      rw [this, Nat.one_mul] at h
      omega
    rw [hb0, Nat.zero_mul] at h
    omega)
   obtain ⟨φ', _, hi', hs, _⟩ := hS.out.own.release hS.out.inv
   have HS' := Lib.hid hs
   have HI' := Lib.hid hi'
   obtain ⟨ol, hol2⟩ : ∃ ol, ol = os.length := ⟨_, rfl⟩
   rw [← hol2]
   have hoL2 : Hid (os.length = ol) := Lib.hid hol2.symm
   have hol5 : ol ≤ 4000000001 := by omega
   clear hi' hs hol2
   obtain ⟨q, hq⟩ : ∃ q, Hid ((limbs (LV os)).length = q) := ⟨_, Lib.hid rfl⟩
   go_wp2_with (go_at_call 102; refine (Rtrim_any HI'.out.fz HS'.out hoL2 (by omega) hoL hq).mono ?_; rintro e w' ⟨rfl, rfl⟩)
   go_ret
   refine ⟨ao, co, φ', ?_, HI'.out, HS'.out.trimI hoL.out hfin.out⟩
   rw [← hfin.out, hq.out]; rfl
end Go.Proofs.YtmlpjffnmkndoaaGreatDoor
