/- The walk of the reference's Allocate. Conditions: none beyond what the claim form gives. -/
import Derived.Test.YtmgdeenjdoennaaW7
import Derived.Test.YtmgdeenjdoennaaW4
namespace Go.Proofs.Ytmgdeenjdoennaa
open Go.RowKit
set_option linter.unusedVariables false
theorem total_n (n : Nat) (a : Option Addr) (cap : Nat) (l : List Int) (w : World) (φ : Phi) (hφ : Fz φ w) (hs : SlV φ a cap l) (hn : Hid (l.length = n)) (hl : n ≤ 40) (hc : Hid (∀ i, i < n → 0 ≤ l.getD i 0 ∧ l.getD i 0 ≤ 5000)) :
    Calls Try.prog 22 #[.slice a n cap] w fun e w' => e = .returned (.int .i64 (sumL l)) ∧ w = w' := by
  have hn' := hn.out
  subst hn'
  refine total_any a cap l 5000 w φ hφ hs (by omega) (fun x hx => ?_) (by omega) (by omega)
  obtain ⟨i, hi, rfl⟩ := List.getElem_of_mem hx
  have := hc.out i hi
  rw [List.getD_eq_getElem?_getD, List.getElem?_eq_getElem hi] at this
  exact this
set_option maxRecDepth 100000 in
set_option maxHeartbeats 1600000 in
theorem ralloc_core (n : Nat) (a0 a1 a2 : Option Addr) (c0 c1 c2 : Nat) (ws least most : List Int) (total : Int) (w : World) (φ : Phi) (hφ : Fz φ w) (s0 : SlV φ a0 c0 ws) (s1 : SlV φ a1 c1 least) (s2 : SlV φ a2 c2 most)
    (l0 : Hid (ws.length = n)) (l1 : Hid (least.length = n)) (l2 : Hid (most.length = n)) (hn : n ≤ 40) :
    Calls Try.prog 12 #[.slice a0 n c0, .slice a1 n c1, .slice a2 n c2, .int .i64 total] w (SlFPost w.heap.size w φ (AllocF ws least most total)) := by
  have e1 : Hid (least.length = ws.length) := Lib.hid (l1.out.trans l0.out.symm)
  have e2 : Hid (most.length = ws.length) := Lib.hid (l2.out.trans l0.out.symm)
  have hnn : Hid (¬ 40 < ws.length) := Lib.hid (by rw [l0.out]; omega)
  have hq : (((n : Nat) : Int) != (n : Nat)) = false := by simp
  go_enter Try.func12, Try.ntmps12
  go_wp2
  clear hq
  go_loopw [35] (fun i wr => ∃ k : Nat, k ≤ n ∧ i = .int .i64 k ∧ Hid (Seen ws least most n k) ∧ Below w.heap.size w wr) (fun i _ => n - (intOf i).toNat)
  case atStart => exact ⟨0, Nat.zero_le _, rfl, Lib.hid ⟨fun i hi => by omega, by simp [sumL], by simp [sumL]⟩, Below.refl _ _⟩
  case round =>
    obtain ⟨k, hk, rfl, hseen, hbel⟩ := hrel
    have blo := hseen.out.lo
    have bhi := hseen.out.hi
    by_cases hlt : k < n
    · obtain ⟨b0, o0, rfl, f0⟩ := s0.intsD l0 hlt
      obtain ⟨b1, o1, rfl, f1⟩ := s1.intsD l1 hlt
      obtain ⟨b2, o2, rfl, f2⟩ := s2.intsD l2 hlt
      have hf := hφ.below hbel
      have k0 := (f0 k hlt wr hf).2
      have k1 := (f1 k hlt wr hf).2
      have k2 := (f2 k hlt wr hf).2
      have hlti : (k : Int) < n := by omega
      have hbad : Hid (badShare ws least most k ↔ (outB (ws.getD k 0) 0 1000000000 = true ∨ outB (least.getD k 0) 0 (most.getD k 0) = true ∨ 5000 < most.getD k 0)) := Lib.hid Iff.rfl
      have hlo := Lib.hid (getD_take_sum least k n l1.out hlt)
      have hhi := Lib.hid (getD_take_sum most k n l2.out hlt)
      generalize ws.getD k 0 = wv at *
      generalize least.getD k 0 = lv at *
      generalize most.getD k 0 = mv at *
      clear f0 f1 f2
      have bad : badShare ws least most k → ∀ a : Act, ∀ wz, Hid (Inv w.heap.size w φ φ wz) → SlFPost w.heap.size w φ (AllocF ws least most total) (.returned (.tuple #[.slice none 0 0, .int .i64 1])) wz := by
        intro hb _ wz hi
        exact ⟨none, 0, φ, by rw [AllocF_range e1.out e2.out hnn.out (by rw [l0.out]; exact hlt) hb]; rfl, hi.out, by rw [AllocF_range e1.out e2.out hnn.out (by rw [l0.out]; exact hlt) hb]; exact SlV.empty _⟩
      have Bad := Lib.hid bad
      clear bad
      have HI : Hid (Inv w.heap.size w φ φ wr) := Lib.hid ((Inv.start hφ).callB hbel)
      by_cases h1 : wv < 0
      · go_wp2_with fail
        go_quiet (fail)
        go_wp2
        go_ret2
        exact Bad.out (hbad.out.2 (.inl (outB_true.2 (.inl h1)))) ⟨#[], []⟩ _ (Lib.hid (HI.out.drewN _))
      have d1 : decide (wv < 0) = false := decide_eq_false h1
      by_cases h2 : 1000000000 < wv
      · go_wp2_with fail
        go_quiet (fail)
        go_wp2
        go_ret2
        exact Bad.out (hbad.out.2 (.inl (outB_true.2 (.inr h2)))) ⟨#[], []⟩ _ (Lib.hid (HI.out.drewN _))
      have d2 : decide (1000000000 < wv) = false := decide_eq_false h2
      by_cases h3 : lv < 0
      · go_wp2_with fail
        go_quiet (fail)
        go_wp2
        go_ret2
        exact Bad.out (hbad.out.2 (.inr (.inl (outB_true.2 (.inl h3))))) ⟨#[], []⟩ _ (Lib.hid (HI.out.drewN _))
      have d3 : decide (lv < 0) = false := decide_eq_false h3
      by_cases h4 : mv < lv
      · go_wp2_with fail
        go_quiet (fail)
        go_wp2
        go_ret2
        exact Bad.out (hbad.out.2 (.inr (.inl (outB_true.2 (.inr h4))))) ⟨#[], []⟩ _ (Lib.hid (HI.out.drewN _))
      have d4 : decide (mv < lv) = false := decide_eq_false h4
      by_cases h5 : 5000 < mv
      · go_wp2_with fail
        go_quiet (fail)
        go_wp2
        go_ret2
        exact Bad.out (hbad.out.2 (.inr (.inr h5))) ⟨#[], []⟩ _ (Lib.hid (HI.out.drewN _))
      have d5 : decide (5000 < mv) = false := decide_eq_false h5
      have hnb : Hid (¬ badShare ws least most k) := Lib.hid (fun hb => by
        have := hbad.out.1 hb
        rw [outB_true, outB_true] at this
        omega)
      go_wp2_with fail
      go_quiet (fail)
      go_wp2
      go_roundw
      case rel => exact ⟨k + 1, by omega, by go_num, Lib.hid (hseen.out.next l1.out l2.out hlt hnb.out), bdrewN hbel _⟩
      case measure => simp [intOf]; omega
    · obtain rfl : k = n := by omega
      have hall : Hid (∀ i, i < ws.length → ¬ badShare ws least most i) := Lib.hid (by rw [l0.out]; exact hseen.out.ok)
      have eL : Hid (sumL (least.take k) = sumL least) := Lib.hid (by rw [← l1.out, List.take_length])
      have eM : Hid (sumL (most.take k) = sumL most) := Lib.hid (by rw [← l2.out, List.take_length])
      have HI : Hid (Inv w.heap.size w φ φ wr) := Lib.hid ((Inv.start hφ).callB hbel)
      have hF1 := Lib.hid (fun h => AllocF_low (total := total) e1.out e2.out hnn.out hall.out h)
      have hF2 := Lib.hid (fun h => AllocF_full (total := total) e1.out e2.out hnn.out hall.out h)
      have hF3 := Lib.hid (fun h => AllocF_ok (total := total) e1.out e2.out hnn.out hall.out h)
      have HG := Lib.hid (good_of e1.out e2.out hall.out)
      rw [eL.out] at blo
      rw [eM.out] at bhi
      have hcL : Hid (∀ i, i < k → 0 ≤ least.getD i 0 ∧ least.getD i 0 ≤ 5000) := Lib.hid (fun i hi => by have h1 := HG.out.lo i (by rw [l0.out]; exact hi); have h2 := HG.out.hi i (by rw [l0.out]; exact hi); omega)
      have hcM : Hid (∀ i, i < k → 0 ≤ most.getD i 0 ∧ most.getD i 0 ≤ 5000) := Lib.hid (fun i hi => by have h1 := HG.out.lo i (by rw [l0.out]; exact hi); have h2 := HG.out.hi i (by rw [l0.out]; exact hi); omega)
      clear hseen hall eL eM hbel
      go_wp2_with fail
      refine (total_n k _ _ _ _ φ HI.out.fz s1 l1 hn hcL).mono ?_
      rintro e w' ⟨rfl, rfl⟩
      by_cases h1 : total < sumL least
      · go_wp2
        go_ret2
        rw [hF1.out (by omega)]
        exact ⟨none, 0, φ, rfl, HI.out, SlV.empty _⟩
      go_wp2_with fail
      refine (total_n k _ _ _ _ φ HI.out.fz s2 l2 hn hcM).mono ?_
      rintro e w' ⟨rfl, rfl⟩
      by_cases h2 : sumL most < total
      · go_wp2
        go_ret2
        rw [hF2.out (by omega) (by omega)]
        exact ⟨none, 0, φ, rfl, HI.out, SlV.empty _⟩
      have hF := Lib.hid (hF3.out (by omega) (by omega))
      obtain ⟨S, hS⟩ := Int.eq_ofNat_of_zero_le (show 0 ≤ total - sumL least by omega)
      have hF' : Hid (AllocF ws least most total = (stepsA ws most least S, 0)) := Lib.hid (by rw [hF.out, hS]; rfl)
      obtain rfl : total = sumL least + S := by omega
      clear hF hF1 hF2 hF3 hS
      have hsteps := Lib.hid (fun (m : Nat) (hm : sumL least + m ≤ sumL most) => steps_good HG.out m hm)
      go_wp2_with fail
      rw [← l1.out]
      refine (Clone_any a1 c1 least wr φ HI.out.fz s1 (by rw [l1.out]; omega)).mono ?_
      rintro e w1 ⟨a5, c5, φ5, rfl, hi5, hown5⟩
      have hi6 := HI.out.call hi5
      have hown6 := hown5.base (B' := w.heap.size) (HI.out.size)
      rw [l1.out]
      clear hi5 hown5 HI
      go_wp2_with fail
      refine (total_n k _ _ _ _ φ5 hi6.fz (s1.mono hi6.le) l1 hn hcL).mono ?_
      rintro e w' ⟨rfl, rfl⟩
      go_wp2_with fail
      have hsub : sumL least + (S : Int) - sumL least = S := by omega
      rw [hsub]
      clear hsub
      go_loopw [86] (fun lo wr => ∃ s : Nat, s ≤ S ∧ lo = .int .i64 s ∧ Inv w.heap.size w φ φ5 wr ∧ Own w.heap.size φ5 wr 3 a5 c5 (stepsA ws most least s)) (fun lo _ => S - (intOf lo).toNat)
      case atStart => exact ⟨0, Nat.zero_le _, rfl, hi6, hown6⟩
      case round =>
        obtain ⟨s, hs, rfl, hi, hown⟩ := hrel
        clear hi6 hown6
        obtain ⟨g1, g2, g3⟩ := hsteps.out s (by omega)
        have G1 := Lib.hid g1
        have G2 := Lib.hid g2
        have hcl : Hid ((stepsA ws most least s).length = k) := Lib.hid (g1.l3.trans l0.out)
        clear g1 g2 g3
        by_cases hlt : s < S
        · have hlt2 : (s : Int) < S := by omega
          have hB := Lib.hid (best_ok G1.out (by rw [G2.out]; omega))
          have hnext : Hid (stepsA ws most least (s + 1) = stepA ws most (stepsA ws most least s)) := Lib.hid rfl
          generalize stepsA ws most least s = cur at *
          go_wp2
          go_loopw [13, 90] (fun b i wz => ∃ j : Nat, j ≤ k ∧ i = .int .i64 j ∧ b = .int .i64 (bestTo ws most cur j) ∧ Inv w.heap.size w φ φ5 wz ∧ Own w.heap.size φ5 wz 3 a5 c5 cur) (fun _ i _ => k - (intOf i).toNat)
          case atStart => exact ⟨0, Nat.zero_le _, rfl, rfl, hi, hown⟩
          case round =>
            obtain ⟨j, hj, rfl, rfl, hi, hown⟩ := hrel
            have br := bestTo_rng ws most cur j
            by_cases hjk : j < k
            · obtain ⟨b0, o0, rfl, f0⟩ := s0.intsD l0 hjk
              obtain ⟨b2, o2, rfl, f2⟩ := s2.intsD l2 hjk
              obtain ⟨g, rfl, f5⟩ := hown.intsD hcl hjk
              have hf0 := hi.fz.sub hi.le
              have k0 := (f0 j hjk wr hf0).2
              have k2 := (f2 j hjk wr hf0).2
              have k5 := (f5 j hjk).1
              have hjki : (j : Int) < k := by omega
              have hbs : Hid (bestTo ws most cur (j + 1) = if cur.getD j 0 < most.getD j 0 ∧ (bestTo ws most cur j < 0 ∨ ws.getD j 0 * (2 * cur.getD (bestTo ws most cur j).toNat 0 + 1) > ws.getD (bestTo ws most cur j).toNat 0 * (2 * cur.getD j 0 + 1)) then (j : Int) else bestTo ws most cur j) := Lib.hid rfl
              have bw := G1.out.ws0 j (by rw [l0.out]; exact hjk)
              have bo := G1.out.lo j (by rw [l0.out]; exact hjk)
              have bm := G1.out.hi j (by rw [l0.out]; exact hjk)
              generalize hBt : bestTo ws most cur j = bt at *
              have hBt := Lib.hid hBt
              by_cases hneg : bt < 0
              · generalize ws.getD j 0 = wv at *
                generalize cur.getD j 0 = ov at *
                generalize most.getD j 0 = mv at *
                clear f0 f2 f5
                by_cases h1 : ov < mv
                · go_wp2_with fail
                  go_quiet (fail)
                  go_wp2
                  go_roundw
                  case rel => exact ⟨j + 1, by omega, by go_num, by rw [hbs.out, if_pos ⟨h1, .inl hneg⟩], hi.drewN _, hown.drewN _⟩
                  case measure => simp [intOf]; omega
                · have h1b : decide (ov < mv) = false := by simpa using h1
                  go_wp2_with fail
                  go_quiet (fail)
                  go_wp2
                  go_roundw
                  case rel => exact ⟨j + 1, by omega, by go_num, by rw [hbs.out, if_neg (fun h => by have := h.1; omega)], hi.drewN _, hown.drewN _⟩
                  case measure => simp [intOf]; omega
              · obtain ⟨b, rfl⟩ := Int.eq_ofNat_of_zero_le (show 0 ≤ bt by omega)
                rw [Int.toNat_natCast] at hbs
                have hbk : b < k := by omega
                have hbki : (b : Int) < k := by omega
                have kb0 := (f0 b hbk wr hf0).2
                have kb5 := (f5 b hbk).1
                have cw := G1.out.ws0 b (by rw [l0.out]; exact hbk)
                have co := G1.out.lo b (by rw [l0.out]; exact hbk)
                have cm := G1.out.hi b (by rw [l0.out]; exact hbk)
                have co1 : 0 ≤ cur.getD b 0 ∧ cur.getD b 0 ≤ 5000 := by omega
                clear co cm
                generalize ws.getD j 0 = wv at *
                generalize cur.getD j 0 = ov at *
                generalize most.getD j 0 = mv at *
                generalize ws.getD b 0 = wb at *
                generalize cur.getD b 0 = ob at *
                clear f0 f2 f5
                have p1 : 0 ≤ wv * (2 * ob + 1) ∧ wv * (2 * ob + 1) ≤ 1000000000 * 10001 := ⟨Int.mul_nonneg (by omega) (by omega), Int.mul_le_mul (by omega) (by omega) (by omega) (by omega)⟩
                have p2 : 0 ≤ wb * (2 * ov + 1) ∧ wb * (2 * ov + 1) ≤ 1000000000 * 10001 := ⟨Int.mul_nonneg (by omega) (by omega), Int.mul_le_mul (by omega) (by omega) (by omega) (by omega)⟩
                have q1 : IntKind.i64.wrap (2 * ov) = 2 * ov := IntWalk.i64_in _ (by omega)
                have q2 : IntKind.i64.wrap (2 * ov + 1) = 2 * ov + 1 := IntWalk.i64_in _ (by omega)
                have q3 : IntKind.i64.wrap (2 * ob) = 2 * ob := IntWalk.i64_in _ (by omega)
                have q4 : IntKind.i64.wrap (2 * ob + 1) = 2 * ob + 1 := IntWalk.i64_in _ (by omega)
                have q5 : IntKind.i64.wrap (wb * (2 * ov + 1)) = wb * (2 * ov + 1) := IntWalk.i64_in _ (by omega)
                have q6 : IntKind.i64.wrap (wv * (2 * ob + 1)) = wv * (2 * ob + 1) := IntWalk.i64_in _ (by omega)
                have Q := Lib.hid (And.intro q1 (And.intro q2 (And.intro q3 (And.intro q4 (And.intro q5 q6)))))
                clear q1 q2 q3 q4 q5 q6
                by_cases h1 : ov < mv
                · by_cases h2 : wb * (2 * ov + 1) < wv * (2 * ob + 1)
                  · obtain ⟨q1, q2, q3, q4, q5, q6⟩ := Q.out
                    go_wp2_with fail
                    go_quiet (fail)
                    clear q1 q2 q3 q4 q5 q6
                    go_wp2
                    go_roundw
                    case rel => exact ⟨j + 1, by omega, by go_num, by rw [hbs.out, if_pos ⟨h1, .inr h2⟩], hi.drewN _, hown.drewN _⟩
                    case measure => simp [intOf]; omega
                  · obtain ⟨q1, q2, q3, q4, q5, q6⟩ := Q.out
                    go_wp2_with fail
                    go_quiet (fail)
                    clear q1 q2 q3 q4 q5 q6
                    go_wp2
                    go_roundw
                    case rel => exact ⟨j + 1, by omega, by go_num, by rw [hbs.out, if_neg (fun h => by have := h.2; omega)], hi.drewN _, hown.drewN _⟩
                    case measure => simp [intOf]; omega
                · have h1b : decide (ov < mv) = false := by simpa using h1
                  go_wp2_with fail
                  go_quiet (fail)
                  go_wp2
                  go_roundw
                  case rel => exact ⟨j + 1, by omega, by go_num, by rw [hbs.out, if_neg (fun h => by have := h.1; omega)], hi.drewN _, hown.drewN _⟩
                  case measure => simp [intOf]; omega
            · obtain rfl : j = k := by omega
              have hb := hB.out
              rw [l0.out] at hb
              have hstep : Hid (stepsA ws most least (s + 1) = cur.set (bestTo ws most cur j).toNat (cur.getD (bestTo ws most cur j).toNat 0 + 1)) := Lib.hid (by rw [hnext.out, stepA, l0.out])
              generalize bestTo ws most cur j = bt at *
              obtain ⟨b, rfl⟩ := Int.eq_ofNat_of_zero_le hb.1
              rw [Int.toNat_natCast] at hb hstep
              obtain ⟨g, rfl, f5⟩ := hown.intsD hcl hb.2
              obtain ⟨k5, k6, k7⟩ := f5 b hb.2
              have bo := G1.out.lo b (by rw [l0.out]; exact hb.2)
              have bm := G1.out.hi b (by rw [l0.out]; exact hb.2)
              have hst := Lib.hid (k7 (cur.getD b 0 + 1) _ _ hi)
              have hbj : (b : Int) < j := by omega
              have bo2 : 0 ≤ cur.getD b 0 ∧ cur.getD b 0 ≤ 5000 := by omega
              clear f5 k7 bo bm hb br
              generalize cur.getD b 0 = ob at *
              go_wp2
              go_roundw
              case rel => exact ⟨s + 1, by omega, by go_num, hst.out.2, by rw [hstep.out]; exact hst.out.1⟩
              case measure => simp [intOf]; omega
        · obtain rfl : s = S := by omega
          go_wp2
          go_ret2
          obtain ⟨φ', _, hi', hs', _⟩ := hown.release hi
          rw [hF'.out]
          exact ⟨a5, c5, φ', by simp only [hcl.out]; rfl, hi', hs'⟩

theorem RAllocate_any (a0 a1 a2 : Option Addr) (c0 c1 c2 : Nat) (ws least most : List Int) (total : Int) (w : World) (φ : Phi) (hφ : Fz φ w) (s0 : SlV φ a0 c0 ws) (s1 : SlV φ a1 c1 least) (s2 : SlV φ a2 c2 most)
    (hm : ws.length ≤ 9223372036854775807 ∧ least.length ≤ 9223372036854775807 ∧ most.length ≤ 9223372036854775807) :
    Calls Try.prog 12 #[.slice a0 ws.length c0, .slice a1 least.length c1, .slice a2 most.length c2, .int .i64 total] w (SlFPost w.heap.size w φ (AllocF ws least most total)) := by
  by_cases h1 : ws.length = least.length
  · by_cases h2 : ws.length = most.length
    · by_cases h3 : 40 < ws.length
      · have hF : Hid (AllocF ws least most total = ([], 2)) := Lib.hid (AllocF_large h1.symm h2.symm h3)
        have H1 := Lib.hid h1
        have H2 := Lib.hid h2
        rw [← H1.out, ← H2.out]
        clear h1 h2
        have hq : (((ws.length : Nat) : Int) != (ws.length : Nat)) = false := by simp
        go_enter Try.func12, Try.ntmps12
        go_wp2
        go_ret2
        exact SlFPost.nil hφ hF.out
      · have := ralloc_core ws.length a0 a1 a2 c0 c1 c2 ws least most total w φ hφ s0 s1 s2 (Lib.hid rfl) (Lib.hid h1.symm) (Lib.hid h2.symm) (by omega)
        rw [← h1, ← h2]; exact this
    · have hF : Hid (AllocF ws least most total = ([], 3)) := Lib.hid (AllocF_form (.inr h2))
      have hq : (((ws.length : Nat) : Int) != (most.length : Nat)) = true := by simp; omega
      have H1 := Lib.hid h1
      rw [← H1.out]
      clear h1 h2
      have hq2 : (((ws.length : Nat) : Int) != (ws.length : Nat)) = false := by simp
      go_enter Try.func12, Try.ntmps12
      go_wp2
      go_ret2
      exact SlFPost.nil hφ hF.out
  · have hF : Hid (AllocF ws least most total = ([], 3)) := Lib.hid (AllocF_form (.inl h1))
    have hq : (((ws.length : Nat) : Int) != (least.length : Nat)) = true := by simp; omega
    clear h1
    go_enter Try.func12, Try.ntmps12
    go_wp2
    go_ret2
    exact SlFPost.nil hφ hF.out
end Go.Proofs.Ytmgdeenjdoennaa
