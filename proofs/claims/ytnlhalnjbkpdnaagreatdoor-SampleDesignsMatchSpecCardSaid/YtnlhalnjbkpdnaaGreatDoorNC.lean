/- Division of numbers of more limbs: the plain law of the loop over the quotient's digits; a row that is kept while another is written. The walk of the program's over, for numbers of any length. Conditions: none beyond what the claim form gives. -/
import Derived.Test.YtnlhalnjbkpdnaaGreatDoorN7
import Derived.Test.YtnlhalnjbkpdnaaGreatDoorPA
import Derived.Test.YtnlhalnjbkpdnaaGreatDoorLB
import Derived.Deep.RegionHeld3
namespace Go.Proofs.YtnlhalnjbkpdnaaGreatDoor
open Go.RowKit
set_option linter.unusedVariables false
set_option linter.unusedSimpArgs false
theorem LV_take_lt {xs : List Nat} {k : Nat} (h : LV xs < lb ^ k) (hk : k ≤ xs.length) : LV (xs.take k) = LV xs ∧ LV (xs.drop k) = 0 := by
  have e := LV_take_drop xs k hk
  have h0 : LV (xs.drop k) = 0 := by
    rcases Nat.eq_zero_or_pos (LV (xs.drop k)) with q | q
    · exact q
    · have : lb ^ k * 1 ≤ lb ^ k * LV (xs.drop k) := Nat.mul_le_mul_left _ q
      omega
  rw [h0, Nat.mul_zero, Nat.add_zero] at e
  exact ⟨e.symm, h0⟩
/-- The highest limb is not 0. -/
theorem top_drop0 {m k : Nat} (hk : (limbs m).length = k + 2) : 0 < (limbs m).getD (k + 1) 0 := by
  have hne : limbs m ≠ [] := by intro e; rw [e] at hk; simp at hk
  have h1 := limbs_top hne
  have h2 := getD_last hne
  rw [hk, show k + 2 - 1 = k + 1 by omega] at h2
  rw [h2]; omega
/-- A row of numbers reads alike whatever is frozen. -/
theorem repL_nat {φ φ' : Phi} : ∀ {xs : List Nat} {cells : List Value}, RepL φ xs cells → RepL φ' xs cells
  | [], _, h => h
  | x :: xs, _, ⟨cs, ds, hc, hx, hr⟩ => ⟨cs, ds, hc, hx, repL_nat hr⟩
/-- The scale with which the highest limb becomes great. -/
theorem scale_facts {n k t : Nat} (hk : (limbs n).length = k + 2) (ht : (limbs n).getD (k + 1) 0 = t) : 0 < t ∧ t < lb ∧ 0 < lb / (t + 1) ∧ lb / (t + 1) < lb ∧ (limbs (n * (lb / (t + 1)))).length = k + 2 ∧ lb ^ (k + 1) ≤ n := by
  have hL := limbs_lim n
  have h1 := top_drop0 hk
  rw [ht] at h1
  have h2 : t < lb := by rw [← ht]; exact hL.getD _
  have h3 : 0 < lb / (t + 1) := Nat.div_pos (by omega) (by omega)
  have h4 : lb / (t + 1) < lb := Nat.div_lt_self lb_pos (by omega)
  have h5 : LV (limbs n) = LV ((limbs n).take (k + 1)) + lb ^ (k + 1) * t := by
    have := LV_take (limbs n) (k + 1)
    rw [List.take_of_length_le (by omega), ht] at this
    exact this
  rw [LV_limbs] at h5
  have h6 : LV ((limbs n).take (k + 1)) < lb ^ (k + 1) := by
    have := LV_lt (hL.take (k + 1))
    rwa [List.length_take, Nat.min_eq_left (by omega)] at this
  have h7 : n < lb ^ (k + 1) * (t + 1) := by rw [Nat.mul_succ]; omega
  have h8 : lb / (t + 1) * (t + 1) ≤ lb := Nat.div_mul_le_self _ _
  refine ⟨h1, h2, h3, h4, ?_, ?_⟩
  · apply Nat.le_antisymm
    · apply limbs_le
      have a1 : n * (lb / (t + 1)) < lb ^ (k + 1) * (t + 1) * (lb / (t + 1)) := Nat.mul_lt_mul_of_pos_right h7 h3
      have a2 : lb ^ (k + 1) * (t + 1) * (lb / (t + 1)) ≤ lb ^ (k + 1) * lb := by
        rw [Nat.mul_assoc, Nat.mul_comm (t + 1)]; exact Nat.mul_le_mul_left _ h8
      rw [Nat.pow_succ]
      exact Nat.lt_of_lt_of_le a1 a2
    · rw [← hk]; exact limbs_mono (Nat.le_mul_of_pos_right n h3)
  · have : lb ^ (k + 1) * 1 ≤ lb ^ (k + 1) * t := Nat.mul_le_mul_left _ h1
    omega
/-- The loop over the quotient's digits: those from j on are found. -/
structure OvI (us0 us q : List Nat) (v j : Nat) : Prop where
  len : us.length = us0.length
  lim : Lim us
  lo : us.take j = us0.take j
  r : LV (us.drop j) < v
  eq : LV (us0.drop j) = v * LV (q.drop j) + LV (us.drop j)
theorem take_getD {xs ys : List Nat} {i : Nat} (h : xs.take (i + 1) = ys.take (i + 1)) : xs.getD i 0 = ys.getD i 0 := by
  have h1 := congrArg (fun l : List Nat => l[i]?) h
  simp only [List.getElem?_take] at h1
  rw [if_pos (by omega), if_pos (by omega)] at h1
  rw [List.getD_eq_getElem?_getD, List.getD_eq_getElem?_getD, h1]
/-- The window of the next digit. -/
theorem OvI.win {us0 us q : List Nat} {v i nb : Nat} (h : OvI us0 us q v (i + 1)) (hi : i + nb + 1 ≤ us0.length) (hv : v ≤ lb ^ nb) : LV ((us.drop i).take (nb + 1)) = LV (us.drop i) ∧ LV (us.drop i) < v * lb ∧ LV (us.drop (i + nb + 1)) = 0 := by
  have hl := h.len
  have e := LV_drop us i (by omega)
  have h1 := h.lim.getD i
  have h2 := h.r
  have h3 : LV (us.drop i) < v * lb := by
    have h4 : lb * (LV (us.drop (i + 1)) + 1) ≤ lb * v := Nat.mul_le_mul_left _ h2
    rw [Nat.mul_succ] at h4
    rw [Nat.mul_comm v]
    omega
  have h5 : v * lb ≤ lb ^ (nb + 1) := by rw [Nat.pow_succ]; exact Nat.mul_le_mul_right _ hv
  obtain ⟨h6, h7⟩ := LV_take_lt (xs := us.drop i) (k := nb + 1) (by omega) (by rw [List.length_drop]; omega)
  rw [List.drop_drop] at h7
  exact ⟨h6, h3, by rw [show i + nb + 1 = i + (nb + 1) by omega]; exact h7⟩
/-- One digit of the quotient. -/
theorem OvI.step {us0 us us' q : List Nat} {v i nb U : Nat} (h : OvI us0 us q v (i + 1)) (hi : i + nb + 1 ≤ us0.length) (hq : i < q.length) (hv : v ≤ lb ^ nb) (hv0 : 0 < v) (hU : LV ((us.drop i).take (nb + 1)) = U) (hw : WinO us us' i nb) (hr : LV ((us'.drop i).take (nb + 1)) = U % v) : OvI us0 us' (q.set i (U / v)) v i := by
  obtain ⟨w1, w2, w3⟩ := h.win hi hv
  have hl := h.len
  have hl' := hw.len
  rw [hU] at w1
  have e1 : LV (us'.drop i) = U % v := by
    have e := LV_take_drop (us'.drop i) (nb + 1) (by rw [List.length_drop]; omega)
    rw [List.drop_drop, show i + (nb + 1) = i + nb + 1 by omega, hw.hi, w3, Nat.mul_zero, Nat.add_zero, hr] at e
    exact e
  refine ⟨hl'.trans hl, hw.lim, ?_, by rw [e1]; exact Nat.mod_lt _ hv0, ?_⟩
  · rw [hw.lo]
    have := congrArg (List.take i) h.lo
    rwa [List.take_take, List.take_take, Nat.min_eq_left (by omega)] at this
  · rw [e1, LV_drop us0 i (by omega), h.eq, LV_set_drop q hq, ← take_getD h.lo]
    have e5 : v * (U / v + lb * LV (q.drop (i + 1))) = v * (U / v) + v * (lb * LV (q.drop (i + 1))) := Nat.mul_add _ _ _
    have e6 : lb * (v * LV (q.drop (i + 1)) + LV (us.drop (i + 1))) = lb * (v * LV (q.drop (i + 1))) + lb * LV (us.drop (i + 1)) := Nat.mul_add _ _ _
    have e2 := LV_drop us i (by omega)
    rw [← w1] at e2
    have e3 := Nat.div_add_mod U v
    have e4 : lb * (v * LV (q.drop (i + 1))) = v * (lb * LV (q.drop (i + 1))) := Nat.mul_left_comm _ _ _
    omega
/-- What the loop gives at its end. -/
theorem OvI.done {us0 us q : List Nat} {m n d : Nat} (h : OvI us0 us q (n * d) 0) (h0 : LV us0 = m * d) (hd : 0 < d) (hn : 0 < n) : LV q = m / n ∧ LV us = m % n * d := by
  have h1 := h.eq
  have h2 := h.r
  simp only [List.drop_zero] at h1 h2
  rw [h0] at h1
  obtain ⟨e1, e2⟩ := divmod_of (Nat.mul_pos hn hd) h1 h2
  rw [Nat.mul_div_mul_right _ _ hd] at e1
  rw [Nat.mul_mod_mul_right] at e2
  exact ⟨e1.symm, e2.symm⟩
/-- A row of the call's own, kept while something else is written. -/
theorem Own.around {α : Type} [Rep α] {B : Nat} {w0 w : World} {φ0 φ : Phi} {E : TypeId} {a : Option Addr} {cap : Nat} {xs : List α} (h : Own B φ w E a cap xs) (hi : Inv B w0 φ0 φ w) :
    ∃ φ', φ.le φ' ∧ Fz φ' w ∧ (∀ b, b < B → φ' b = φ b) ∧ (∀ b, (∀ x, a = some x → x.block ≠ b) → φ' b = φ b) ∧ (∀ w', Fz φ' w' → Own B φ w' E a cap xs) := by
  cases a with
  | none => exact ⟨φ, φ.le_refl, hi.fz, fun _ _ => rfl, fun _ _ => rfl, fun w' _ => h.kept φ.le_refl (fun _ _ h => h) (fun x hx => by cases hx)⟩
  | some x =>
    obtain ⟨hB, hlt⟩ := h.lt x rfl
    have ho : w.heap[x.block]? = some w.heap[x.block] := Array.getElem?_eq_getElem hlt
    have hn := h.free x rfl
    refine ⟨φ.upd x.block w.heap[x.block], φ.le_upd _ _ hn, hi.fz.upd ho, fun b hb => ?_, fun b hb => ?_, fun w' hw => ?_⟩
    · unfold Phi.upd; rw [if_neg (by omega)]
    · unfold Phi.upd; rw [if_neg (fun e => hb x rfl e.symm)]
    · refine h.kept φ.le_refl (fun _ _ h => h) (fun y hy => ?_)
      cases hy
      rw [ho]
      exact hw _ _ (by unfold Phi.upd; rw [if_pos rfl])
/-- Two rows of the call's own: the first is handed on, the second kept. -/
theorem Ow2.lend {β : Type} [Rep β] {w0 w : World} {φ : Phi} {E F : TypeId} {a1 a2 : Option Addr} {c1 c2 : Nat} {us : List Nat} {ys : List β} (h : Ow2 w0 φ E F a1 c1 us a2 c2 ys w) :
    ∃ φ', φ.le φ' ∧ OwSt w0 φ' E a1 c1 us w ∧ ∀ (us' : List Nat) (w' : World), OwSt w0 φ' E a1 c1 us' w' → Ow2 w0 φ E F a1 c1 us' a2 c2 ys w' := by
  obtain ⟨φ', hl, hf, hB, ho, hk⟩ := h.o2.around h.inv
  refine ⟨φ', hl, ⟨⟨h.inv.bel, h.inv.base, hf, φ'.le_refl, fun _ _ => rfl⟩, ?_⟩, fun us' w' h' => ⟨⟨h'.inv.bel, h'.inv.base, h'.inv.fz.sub hl, φ.le_refl, fun _ _ => rfl⟩, ?_, hk w' h'.inv.fz, h.ne⟩⟩
  · obtain ⟨⟨cells, hr, hL⟩, hfr⟩ := h.o1
    exact ⟨⟨cells, hr, hL.mono hl⟩, fun x hx => by rw [ho _ (fun y hy e => h.ne x y hx hy e.symm)]; exact hfr x hx⟩
  · obtain ⟨⟨cells, hr, hL⟩, hfr⟩ := h'.own
    refine ⟨⟨cells, hr, repL_nat hL⟩, fun x hx => ?_⟩
    cases hφ : φ x.block with
    | none => rfl
    | some o =>
      have h1 := hl _ _ hφ
      rw [hfr x hx] at h1
      cases h1
end Go.Proofs.YtnlhalnjbkpdnaaGreatDoor

namespace Go.Proofs.YtnlhalnjbkpdnaaGreatDoor
open Go.RowKit
set_option linter.unusedVariables false
set_option linter.unusedSimpArgs false
theorem LV_pad (xs : List Nat) (r : Nat) : LV (xs ++ List.replicate r 0) = LV xs := by rw [LV_append, LV_zeros, Nat.mul_zero, Nat.add_zero]
theorem pad_next (xs : List Nat) (r : Nat) : (xs ++ List.replicate r 0) ++ [0] = xs ++ List.replicate (r + 1) 0 := by
  rw [List.append_assoc, List.replicate_succ']
/-- The highest limbs at the loop's start. -/
theorem start_lt {m d v N r k : Nat} (hv : lb ^ (k + 1) ≤ v) (hN : (limbs (m * d) ++ List.replicate (r + 1) 0).length = N) (hk : k + 2 < N) : LV ((limbs (m * d) ++ List.replicate (r + 1) 0).drop (N - (k + 2))) < v := by
  have hL : Lim (limbs (m * d) ++ List.replicate r 0) := (limbs_lim _).append (Lim.zeros r)
  have e : limbs (m * d) ++ List.replicate (r + 1) 0 = (limbs (m * d) ++ List.replicate r 0) ++ [0] := (pad_next _ _).symm
  have hl : (limbs (m * d) ++ List.replicate r 0).length = N - 1 := by
    have := congrArg List.length e
    rw [hN, List.length_append (bs := [0])] at this
    simp at this ⊢; omega
  rw [e, List.drop_append_of_le_length (by omega), LV_append]
  simp only [LV, Nat.mul_zero, Nat.add_zero]
  have := LV_lt (hL.drop (N - (k + 2)))
  rw [List.length_drop, hl, show N - 1 - (N - (k + 2)) = k + 1 by omega] at this
  omega
set_option maxRecDepth 100000 in
set_option maxHeartbeats 8000000 in
theorem div_any {M : Nat} (hM : LenB M) : DivOk M := by
  intro m n k1 k2 a1 a2 c1 c2 w φ hφ s1 s2 h1 h2 hm9 hn99 hn0
  have hk1 : k1 ≤ 1000000000 := by rw [← h1.out]; exact hM.len hm9
  have hk2 : k2 ≤ 1000000000 := by rw [← h2.out]; exact hM.len hn99
  obtain ⟨q, hq⟩ : ∃ q, Hid (cmpN m n = q) := ⟨_, Lib.hid rfl⟩
  have HF := Lib.hid hφ
  have S1 := Lib.hid s1
  have S2 := Lib.hid s2
  have hcap : k1 ≤ c1 := by rw [← h1.out]; exact s1.capn
  clear s1 s2 hφ
  by_cases hlt : m < n
  · have hq1 : q = -1 := by rw [← hq.out, cmpN, if_pos hlt]
    subst hq1
    have e1 : Hid (m / n = 0 ∧ m % n = m) := Lib.hid ⟨Nat.div_eq_of_lt hlt, Nat.mod_eq_of_lt hlt⟩
    go_enter Tryz.func262, Tryz.ntmps262
    go_wp2_with (go_at_call 232; refine (compare_any HF.out S1.out S2.out h1 h2 (by omega) (by omega) hq).mono ?_; rintro e w' ⟨rfl, hb⟩)
    go_ret2
    rename World => w'
    refine ⟨none, 0, a1, c1, φ, ?_, (Inv.start HF.out).callB (by assumption), ?_, ?_⟩
    · rw [e1.out.1, e1.out.2, limbs_zero, h1.out]; rfl
    · rw [e1.out.1, limbs_zero]; exact SlV.empty φ
    · rw [e1.out.2]; exact S1.out
  have hq1 : 0 ≤ q := by rw [← hq.out, cmpN, if_neg hlt]; split <;> omega
  have hqn : ¬ q < 0 := by omega
  by_cases h21 : k2 = 1
  · subst h21
    have hnl : n < lb := by have := limbs_lt n; rwa [h2.out, Nat.pow_one] at this
    obtain ⟨b, off, rfl, f⟩ := S2.out.natD h2 (k := 0) (by omega)
    have hg0 : (limbs n).getD 0 0 = n := by rw [limbs_one hn0 hnl]; rfl
    have hc := Lib.hid (fun w (hw : Fz φ w) => (f 0 (by omega) w hw).2)
    rw [hg0, Nat.add_zero] at hc
    have hn9 : n ≤ 1000000000 := Nat.le_of_lt hnl
    have hrl : m % n < 18446744073709551616 := by have := Nat.mod_lt m hn0; omega
    clear f hg0
    go_enter Tryz.func262, Tryz.ntmps262
    go_wp2_with (first
      | (go_at_call 232; refine (compare_any HF.out S1.out S2.out h1 h2 (by omega) (by omega) hq).mono ?_; rintro e w1 ⟨rfl, hb⟩; have HI := Lib.hid ((Inv.start HF.out).callB hb); have d1 := hc.out w1 HI.out.fz)
      | (go_at_call 281; refine (short_any HI.out.fz S1.out h1 (by omega) hn0 hn9).mono ?_; rintro e w2 ⟨a8, c8, φ8, rfl, hi8, hs8⟩; have HI8 := Lib.hid hi8; have HS8 := Lib.hid hs8; clear hi8 hs8)
      | (go_at_call 170; refine (small_any (m % n) hrl _ _ HI8.out.fz).mono ?_; rintro e w3 ⟨a9, c9, φ9, rfl, hi9, hs9⟩))
    go_ret2
    exact ⟨a8, c8, a9, c9, φ9, rfl, (HI.out.call HI8.out).call hi9, HS8.out.mono hi9.le, hs9⟩
  obtain ⟨k, rfl⟩ : ∃ k, k2 = k + 2 := by
    have : k2 ≠ 0 := fun e => by
      have := limbs_len0.1 (by rw [h2.out]; exact e : (limbs n).length = 0)
      omega
    exact ⟨k2 - 2, by omega⟩
  obtain ⟨t, ht⟩ : ∃ t, (limbs n).getD (k + 1) 0 = t := ⟨_, rfl⟩
  obtain ⟨f1, f2, f3, f4, f5, f6⟩ := scale_facts h2.out ht
  obtain ⟨d, hd⟩ : ∃ d, lb / (t + 1) = d := ⟨_, rfl⟩
  rw [hd] at f3 f4 f5
  have f2' : t < 1000000000 := f2
  have f4' : d < 1000000000 := f4
  have hdv : Hid ((1000000000 : Int) / ((t : Int) + 1) = (d : Int)) := Lib.hid (by rw [← hd]; exact (Int.natCast_ediv lb (t + 1)).symm ▸ rfl)
  have hz : (((t : Int) + 1) == 0) = false := by simp; omega
  have hld : Hid ((limbs d).length = 1) := Lib.hid (by rw [limbs_one f3 f4]; rfl)
  have hld0 : Hid ((limbs d).getD 0 0 = d) := Lib.hid (by rw [limbs_one f3 f4]; rfl)
  obtain ⟨v, hv⟩ : ∃ v, n * d = v := ⟨_, rfl⟩
  rw [hv] at f5
  have hvl : Hid ((limbs v).length = k + 2) := Lib.hid f5
  have hvn : lb ^ (k + 1) ≤ v := by rw [← hv]; exact Nat.le_trans f6 (Nat.le_mul_of_pos_right n f3)
  have HVN := Lib.hid hvn
  have hv0 : 0 < v := Nat.lt_of_lt_of_le (Nat.pow_pos lb_pos) hvn
  have hvM : Hid (v ≤ lb ^ (k + 2)) := Lib.hid (by have := limbs_lt v; rw [hvl.out] at this; omega)
  have hvt : Hid ((limbs v).getD (k + 1) 0 ≠ 0) := Lib.hid (by have := top_drop0 hvl.out; omega)
  obtain ⟨nu, hnu⟩ : ∃ k, Hid ((limbs (m * d)).length = k) := ⟨_, Lib.hid rfl⟩
  have hnu1 : nu ≤ k1 + 1 := by have := limbs_mul m d; rw [hnu.out, h1.out, hld.out] at this; exact this
  have hnu2 : k + 2 ≤ nu := by
    rw [← hnu.out, ← h2.out]
    exact limbs_mono (Nat.le_trans (by omega) (Nat.le_mul_of_pos_right m f3))
  have HV := Lib.hid hv
  have HD3 := Lib.hid f3
  obtain ⟨b, off, rfl, f⟩ := S2.out.natD h2 (k := 0) (by omega)
  have hc := Lib.hid (fun w (hw : Fz φ w) => (f (k + 1) (by omega) w hw).2)
  rw [ht] at hc
  have hx1 : (0 : Int) ≤ ((k + 2 : Nat) : Int) - 1 := by omega
  have hx2 : ((k + 2 : Nat) : Int) - 1 < ((k + 2 : Nat) : Int) := by omega
  have hx3 : (((k + 2 : Nat) : Int) - 1).toNat = k + 1 := by omega
  have hk21 : (((k + 2 : Nat) : Int) == 1) = false := by simp; omega
  have hd18 : d < 18446744073709551616 := by omega
  clear f f1 f2 f4 f5 f6 ht hd hv hvn
  go_enter Tryz.func262, Tryz.ntmps262
  go_wp2_with (first
    | (go_at_call 232; refine (compare_any HF.out S1.out S2.out h1 h2 (by omega) (by omega) hq).mono ?_; rintro e w1 ⟨rfl, hb⟩; have HI := Lib.hid ((Inv.start HF.out).callB hb); have d1 := hc.out w1 HI.out.fz; clear hb)
    | (go_at_call 170; rw [hdv.out]; refine (small_any d hd18 _ _ HI.out.fz).mono ?_; rintro e w3 ⟨a3, c3, φ3, rfl, hi3, hs3⟩; rw [hld.out]; have I3 := Lib.hid (HI.out.call hi3); have SC := Lib.hid hs3; have L3 := Lib.hid hi3.le; clear hi3 hs3)
    | (go_at_call 157; (with_reducible refine (times_any (m := n) (n := d) I4.out.fz (S2.out.mono (L3.out.trans L4.out)) (SC.out.mono L4.out) h2 hld (by omega) (by omega)).mono ?_); rintro e w5 ⟨a5, c5, φ5, rfl, hi5, hs5⟩; rw [HV.out, hvl.out]; rw [HV.out] at hs5; have I5 := Lib.hid (I4.out.call hi5); have SV := Lib.hid hs5; have SU5 := Lib.hid (SU.out.mono hi5.le); have SC5 := Lib.hid ((SC.out.mono L4.out).mono hi5.le); clear hi5 hs5)
    | (go_at_call 157; (with_reducible refine (times_any (m := m) (n := d) I3.out.fz (S1.out.mono L3.out) SC.out h1 hld (by omega) (by omega)).mono ?_); rintro e w4 ⟨a4, c4, φ4, rfl, hi4, hs4⟩; rw [hnu.out]; have I4 := Lib.hid (I3.out.call hi4); have SU := Lib.hid hs4; have L4 := Lib.hid hi4.le; clear hi4 hs4)
    | (at_builtin; refine wpList_apps (α := Nat) rfl _ _ 201 rfl slNat ((Inv.start I5.out.fz).alloc (.cells #[] 215)) _ 0 [] (Own.lit0 (Inv.start I5.out.fz) 215) a4 c4 (limbs (m * d)) SU5.out rfl (by rw [hnu.out]; rfl) (by rw [hnu.out]; simp; omega) ?_; intro a6 c6 w6 hi6 ho6 hg6; have HI6 := Lib.hid hi6; have HO6 := Lib.hid ho6; clear hi6 ho6 hg6)
    | (at_builtin; (refine wpList_app1F (α := Nat) rfl _ _ 201 rfl slNat HI6.out a6 c6 _ HO6.out _ _ 0 rfl rfl 1 rfl (by rw [List.nil_append, hnu.out]; omega) ?_; intro a7 c7 w7 hi7 ho7 hg7 hf7; have HI7 := Lib.hid hi7; have HO7 := Lib.hid ho7; clear hi7 ho7 hg7 hf7)))
  have hS7 : Hid (OwSt w5 φ5 215 a7 c7 (limbs (m * d) ++ List.replicate 1 0) w7) := Lib.hid ⟨HI7.out, HO7.out⟩
  clear HI7 HO7 HI6 HO6 d1
  go_loopw [9] (fun uv wr => ∃ (r : Nat) (ao : Option Addr) (co : Nat) (us : List Nat), uv = .slice ao us.length co ∧ us.length = nu + 1 + r ∧ (r = 0 ∨ nu + r < k1 + 1) ∧ Hid (us = limbs (m * d) ++ List.replicate (r + 1) 0) ∧ Hid (OwSt w5 φ5 215 ao co us wr)) (fun uv _ => k1 + 1 - slN uv)
  case atStart => exact ⟨0, a7, c7, limbs (m * d) ++ List.replicate 1 0, by simp, by simp [hnu.out], .inl rfl, Lib.hid rfl, hS7⟩
  case round =>
    clear hS7
    obtain ⟨r, ao, co, us, rfl, hul, hr, hus, hS⟩ := hrel
    by_cases hl : us.length < k1 + 1
    · have hli : (us.length : Int) < (k1 : Int) + 1 := by omega
      have hin := Lib.hid hS.out.inv
      have hon := Lib.hid hS.out.own
      have hnx : Hid (us ++ [0] = limbs (m * d) ++ List.replicate (r + 1 + 1) 0) := Lib.hid (by rw [hus.out, pad_next])
      clear hS
      go_wp2_with (at_builtin; (refine wpList_app1F (α := Nat) rfl _ _ 201 rfl slNat hin.out ao co _ hon.out _ _ 0 rfl rfl 1 rfl (by omega) ?_; intro a8 c8 w8 hi8 ho8 hg8 hf8))
      go_roundw
      case rel => exact ⟨r + 1, a8, c8, us ++ [0], by simp; omega, by simp; omega, .inr (by omega), hnx, Lib.hid ⟨hi8, ho8⟩⟩
      case measure => simp [slN]; omega
    · have hli : ¬ (us.length : Int) < (k1 : Int) + 1 := by omega
      obtain ⟨N, hN⟩ : ∃ N, us.length = N := ⟨_, rfl⟩
      rw [hN] at hul hl hli ⊢
      obtain ⟨Q, hQ⟩ : ∃ Q, N = Q + (k + 2) := ⟨N - (k + 2), by omega⟩
      have hQ0 : 0 < Q := by omega
      have hNb : N ≤ 1000000002 := by omega
      have HQ : Hid ((N : Int) - ((k : Int) + 2) = (Q : Int)) := Lib.hid (by omega)
      have HN := Lib.hid hN
      obtain ⟨gu, hga, hgl, _⟩ := hS.out.own.natD HN (k := 0) (by omega)
      subst hga
      have hcu : N ≤ co := by have := hS.out.own.cap_le; omega
      have hco := hS.out.own.cap_le.2.1
      have hstart : Hid (OvI us us (List.replicate Q 0) v Q) := Lib.hid (by
        have hL : Lim us := by rw [hus.out]; exact (limbs_lim _).append (Lim.zeros _)
        refine ⟨rfl, hL, rfl, ?_, ?_⟩
        · have := start_lt (m := m) (d := d) (N := N) (r := r) (k := k) HVN.out (by rw [← hus.out]; exact hN) (by omega)
          rw [← hus.out, show N - (k + 2) = Q by omega] at this
          exact this
        · have e : (List.replicate Q 0).drop Q = ([] : List Nat) := List.drop_of_length_le (by simp)
          rw [e]; simp [LV])
      have hU0 : Hid (LV us = m * d) := Lib.hid (by rw [hus.out, LV_pad, LV_limbs])
      have hin := Lib.hid hS.out.inv
      have hon := Lib.hid hS.out.own
      clear hus hr hul hl hN hS
      go_wp2_with (at_make; (refine wpList_mkn (α := Nat) rfl _ _ 201 rfl slNat hin.out _ _ Q 0 (fun _ => rfl) rfl (by first | rfl | exact congrArg (Value.int .i64) HQ.out) (by first | rfl | exact congrArg (Value.int .i64) HQ.out) (by omega) ?_; intro w8 hi8 ho8 hg8))
      have hne : gu ≠ wr.heap.size := Nat.ne_of_lt hgl
      have hO : Hid (Ow2 w5 φ5 215 215 (some ⟨gu, 0, none⟩) co us (some ⟨wr.heap.size, 0, none⟩) Q (List.replicate Q 0) w8) := Lib.hid ⟨hi8, hon.out.other hg8 (fun x hx => by simp), ho8, fun x y hx hy => by cases hx; cases hy; exact hne⟩
      generalize wr.heap.size = gq at *
      have hin0 := HN.out
      clear hin hon hi8 ho8 hg8
      go_loopw [13] (fun jv wr2 => ∃ (i : Nat) (u2 qs : List Nat), i ≤ Q ∧ jv = .int .i64 ((i : Int) - 1) ∧ Hid (qs.length = Q) ∧ Hid (Lim qs) ∧ Hid (OvI us u2 qs v i) ∧ Hid (Ow2 w5 φ5 215 215 (some ⟨gu, 0, none⟩) co u2 (some ⟨gq, 0, none⟩) Q qs wr2)) (fun jv _ => (intOf jv + 1).toNat)
      case atStart => exact ⟨Q, us, List.replicate Q 0, Nat.le_refl _, rfl, Lib.hid (by simp), Lib.hid (Lim.zeros Q), hstart, hO⟩
      case round =>
        clear hstart hO
        obtain ⟨i, u2, qs, hi, rfl, hql, hqL, hI, hO⟩ := hrel
        rename World => wr2
        by_cases hi0 : i = 0
        · subst hi0
          have hneg : ¬ (0 : Int) ≤ ((0 : Nat) : Int) - 1 := by omega
          obtain ⟨φ9, l9, i9, su, sq⟩ := hO.out.release
          have HSU := Lib.hid su
          have HSQ := Lib.hid sq
          have HI9 := Lib.hid i9
          have hdn : Hid (LV qs = m / n ∧ LV u2 = m % n * d) := Lib.hid (by
            have := hI.out
            rw [← HV.out] at this
            exact this.done hU0.out HD3.out hn0)
          have hul2 : Hid (u2.length = Q + (k + 2)) := Lib.hid (by rw [hI.out.len, hin0, hQ])
          have huL : Hid (Lim u2) := Lib.hid hI.out.lim
          obtain ⟨p1, hp1⟩ : ∃ p, Hid ((limbs (LV u2)).length = p) := ⟨_, Lib.hid rfl⟩
          obtain ⟨p2, hp2⟩ : ∃ p, Hid ((limbs (LV qs)).length = p) := ⟨_, Lib.hid rfl⟩
          have hp1l : p1 ≤ 4000000000 := by
            obtain ⟨kk, hkk, hke⟩ := trim_take huL.out
            have := hp1.out
            rw [hke, List.length_take, hul2.out] at this
            omega
          have hsh : Hid (LV u2 / d = m % n) := Lib.hid (by rw [hdn.out.2]; exact Nat.mul_div_cancel _ HD3.out)
          obtain ⟨b3, o3, rfl, f3⟩ := (SC5.out.mono l9).natD hld (k := 0) (by omega)
          have hc3 := Lib.hid (fun W (hW : Fz φ9 W) => (f3 0 (by omega) W hW).2)
          rw [hld0.out, Nat.add_zero] at hc3
          have STU := Lib.hid (su.trim huL.out rfl)
          clear su sq i9 f3 hO hI
          have z0 := hc3.out _ HI9.out.fz
          have hWd : Hid (Inv w5.heap.size w5 φ5 φ9 wr2.drew) := Lib.hid HI9.out.drew
          go_wp2
          go_region_held3 (fun w' => w'.cell? ⟨b3, o3, none⟩ = some (.int .u64 (d : Int))) (first | exact z0 | exact (by assumption)) (first
            | ((with_reducible refine (short_any (m := LV u2) (d := d) hWd.out.fz STU.out hp1 hp1l HD3.out (by omega)).mono ?_); rintro e w9 ⟨a9, c9, ψ, rfl, hi9, hs9⟩; have z1 := hc3.out _ (hi9.fz.sub hi9.le))
            | ((with_reducible refine (trim_any hWd.out.fz HSU.out hul2 (by omega) huL hp1).mono ?_); rintro e w' ⟨rfl, rfl⟩))
          rw [hsh.out] at hs9
          have hs9' := Lib.hid hs9
          have HI10 := Lib.hid (hWd.out.call hi9)
          have HSQ2 := Lib.hid (HSQ.out.mono hi9.le)
          clear hs9 hi9
          go_wp2_with (go_at_call 222; refine (trim_any HI10.out.fz HSQ2.out hql (by omega) hqL hp2).mono ?_; rintro e w' ⟨rfl, rfl⟩)
          go_ret2
          refine ⟨some ⟨gq, 0, none⟩, Q, a9, c9, ψ, ?_, I5.out.call HI10.out, ?_, hs9'.out⟩
          · rw [← hdn.out.1, hp2.out, hsh.out]; rfl
          · rw [← hdn.out.1]; exact HSQ2.out.trim hqL.out rfl
        · obtain ⟨j, rfl⟩ : ∃ j, i = j + 1 := ⟨i - 1, by omega⟩
          have hpos : (0 : Int) ≤ ((j + 1 : Nat) : Int) - 1 := by omega
          have hjj : Hid (((j + 1 : Nat) : Int) - 1 = (j : Int)) := Lib.hid (by omega)
          obtain ⟨U, hU⟩ : ∃ U, Hid (LV ((u2.drop j).take (k + 3)) = U) := ⟨_, Lib.hid rfl⟩
          have hwin := hI.out.win (nb := k + 2) (by rw [hin0, hQ]; omega) hvM.out
          have hltU : Hid (LV ((u2.drop j).take (k + 3)) < v * lb) := Lib.hid (by rw [show k + 3 = (k + 2) + 1 by omega, hwin.1]; exact hwin.2.1)
          have hN2 : Hid (u2.length = N) := Lib.hid (by rw [hI.out.len]; exact hin0)
          have hL2 : Hid (Lim u2) := Lib.hid hI.out.lim
          have hVL : Hid (Lim (limbs v)) := Lib.hid (limbs_lim v)
          have hVV : Hid (LV (limbs v) = v) := Lib.hid (LV_limbs v)
          obtain ⟨φl, hll, hlst, hback⟩ := hO.out.lend
          have HL := Lib.hid hlst
          have HBK := Lib.hid hback
          have SVl := SV.out.mono hll
          have hd7 : (j : Int) + ((k : Int) + 2) + 1 ≤ (co : Int) := by omega
          have hd8 : (j : Int) ≤ (j : Int) + ((k : Int) + 2) + 1 := by omega
          have hd6 : ((j : Int) + ((k : Int) + 2) + 1).toNat = j + (k + 2) + 1 := by omega
          have hstep := Lib.hid (fun u3 (hw : WinO u2 u3 j (k + 2)) (hr : LV ((u3.drop j).take (k + 3)) = U % v) => hI.out.step (nb := k + 2) (U := U) (by rw [hin0, hQ]; omega) (by rw [hql.out]; omega) hvM.out hv0 hU.out hw hr)
          clear hwin hlst hback hll
          have hto : (((j + 1 : Nat) : Int) - 1).toNat = j := by omega
          have hbd : ((j + 1 : Nat) : Int) - 1 < (Q : Int) := by omega
          have hUv : Hid (U / v < lb) := Lib.hid ((Nat.div_lt_iff_lt_mul hv0).2 (by have := hltU.out; rw [hU.out] at this; rw [Nat.mul_comm]; exact this))
          go_wp2_with fail
          rw [show j + (k + 2) + 1 - j = (k + 2) + 1 by omega]
          refine (divideStep_any HL hN2 (by omega) (by omega) hL2 SVl hVL hVV hvl hvt hltU).mono ?_
          rintro e w9 ⟨u3, rfl, hw3, hr3, hS3⟩
          rw [hU.out] at hr3 ⊢
          have hO3 := HBK.out u3 w9 hS3
          have hI3 := Lib.hid (hstep.out u3 hw3 hr3)
          obtain ⟨gg, hga, hgl2, fo⟩ := hO3.o2.natD hql (k := j) (by omega)
          cases hga
          obtain ⟨e1, e2, e3⟩ := fo j (by omega)
          have e4 := e3 (U / v) w5 φ5 hO3.inv
          have hO4 := Lib.hid (hO3.swap.put1 e4.1 e4.2).swap
          clear fo e3 e4 hO3 hS3 hw3 hr3 hstep HBK HL
          go_wp2
          go_roundw
          case rel => exact ⟨j, u3, qs.set j (U / v), by omega, by go_num, Lib.hid (by rw [List.length_set]; exact hql.out), Lib.hid (hqL.out.set hUv.out), hI3, hO4⟩
          case measure => (simp [intOf] <;> omega)
end Go.Proofs.YtnlhalnjbkpdnaaGreatDoor
