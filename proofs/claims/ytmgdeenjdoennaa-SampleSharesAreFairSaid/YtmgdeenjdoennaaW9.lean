/- The walks of SampleSharesMatchSpec and SampleSharesAreFair. Conditions: those that the claim form gives. -/
import Derived.Test.YtmgdeenjdoennaaW8
namespace Go.Proofs.Ytmgdeenjdoennaa
open Go.RowKit
set_option linter.unusedVariables false

theorem AllocF_cases (ws least most : List Int) (total : Int) :
    (∃ f, f ≠ 0 ∧ AllocF ws least most total = ([], f)) ∨
    (∃ r, AllocF ws least most total = (r, 0) ∧ ws.length ≤ 40 ∧ Good ws least most r ∧ Fair ws least most r ∧ sumL r = total) := by
  by_cases h1 : ws.length ≠ least.length ∨ ws.length ≠ most.length
  · exact .inl ⟨3, by decide, AllocF_form h1⟩
  have e1 : least.length = ws.length := by omega
  have e2 : most.length = ws.length := by omega
  by_cases h2 : 40 < ws.length
  · exact .inl ⟨2, by decide, AllocF_large e1 e2 h2⟩
  by_cases h3 : ∃ i, i < ws.length ∧ badShare ws least most i
  · obtain ⟨i, hi, hb⟩ := h3
    exact .inl ⟨1, by decide, AllocF_range e1 e2 h2 hi hb⟩
  have hall : ∀ i, i < ws.length → ¬ badShare ws least most i := fun i hi hb => h3 ⟨i, hi, hb⟩
  by_cases h4 : total < sumL least
  · exact .inl ⟨1, by decide, AllocF_low e1 e2 h2 hall h4⟩
  by_cases h5 : sumL most < total
  · exact .inl ⟨15, by decide, AllocF_full e1 e2 h2 hall h4 h5⟩
  obtain ⟨g1, g2, g3⟩ := steps_good (good_of e1 e2 hall) (total - sumL least).toNat (by omega)
  exact .inr ⟨_, AllocF_ok e1 e2 h2 hall h4 h5, by omega, g1, g3, by rw [g2]; omega⟩
theorem AllocF_len (ws least most : List Int) (total : Int) : (AllocF ws least most total).1.length ≤ 40 := by
  rcases AllocF_cases ws least most total with ⟨f, _, h⟩ | ⟨r, h, hl, g, _⟩
  · rw [h]; simp
  · rw [h]; have := g.l3; simp only; omega

theorem sampleSharesMatchSpec_walk (w : World) (φ : Phi) (hφ : Fz φ w) (a0 : Option Addr) (c0 : Nat) (ws : List Int) (s0 : SlV φ a0 c0 ws) (g0 : ws.length * 8 ≤ reachBytes ∧ ∀ y ∈ ws, IsI64 y)
    (a1 : Option Addr) (c1 : Nat) (least : List Int) (s1 : SlV φ a1 c1 least) (g1 : least.length * 8 ≤ reachBytes ∧ ∀ y ∈ least, IsI64 y)
    (a2 : Option Addr) (c2 : Nat) (most : List Int) (s2 : SlV φ a2 c2 most) (g2 : most.length * 8 ≤ reachBytes ∧ ∀ y ∈ most, IsI64 y) (total : Int) (gt : IsI64 total) :
    Calls Try.prog 6 #[.slice a0 ws.length c0, .slice a1 least.length c1, .slice a2 most.length c2, .int .i64 total] w fun e w' => e = .returned (.bool true) ∧ Below w.heap.size w w' := by
  have hm : ws.length ≤ 9223372036854775807 ∧ least.length ≤ 9223372036854775807 ∧ most.length ≤ 9223372036854775807 := by
    have h0 := g0.1; have h1 := g1.1; have h2 := g2.1; unfold reachBytes at h0 h1 h2; omega
  have hrl := AllocF_len ws least most total
  clear g0 g1 g2
  have HM := Lib.hid hm
  clear hm
  go_enter Try.func6, Try.ntmps6
  go_wp2_with fail
  refine (Allocate_any a0 a1 a2 c0 c1 c2 ws least most total w φ hφ s0 s1 s2 HM.out).mono ?_
  rintro e w1 ⟨b1, d1, φ1, rfl, hi1, hs1⟩
  generalize hR : AllocF ws least most total = R at *
  have hR := Lib.hid hR
  go_wp2_with fail
  refine (RAllocate_any a0 a1 a2 c0 c1 c2 ws least most total w1 φ1 hi1.fz (s0.mono hi1.le) (s1.mono hi1.le) (s2.mono hi1.le) HM.out).mono ?_
  rintro e w2 ⟨b2, d2, φ2, rfl, hi2, hs2⟩
  rw [hR.out] at hs2 ⊢
  have hi3 := hi1.call hi2
  go_wp2_with fail
  refine (Equal_any b1 d1 R.1 b2 d2 R.1 w2 φ2 hi2.fz (hs1.mono hi2.le) hs2 (by omega)).mono ?_
  rintro e w3 ⟨rfl, hb⟩
  have ht : decide (R.1 = R.1) = true := by simp
  rw [ht]
  go_wp2
  go_ret
  exact ⟨ret_bool (by simp), (hi3.callB hb).bel⟩

theorem getD_elem (l : List Int) (k : Nat) (h : k < l.length) : l.getD k 0 = l[k] := by
  rw [List.getD_eq_getElem?_getD, List.getElem?_eq_getElem h]; rfl

set_option maxRecDepth 100000 in
set_option maxHeartbeats 1600000 in
theorem sampleSharesAreFair_walk (w : World) (φ : Phi) (hφ : Fz φ w) (a0 : Option Addr) (c0 : Nat) (ws : List Int) (s0 : SlV φ a0 c0 ws) (g0 : ws.length * 8 ≤ reachBytes ∧ ∀ y ∈ ws, IsI64 y)
    (a1 : Option Addr) (c1 : Nat) (least : List Int) (s1 : SlV φ a1 c1 least) (g1 : least.length * 8 ≤ reachBytes ∧ ∀ y ∈ least, IsI64 y)
    (a2 : Option Addr) (c2 : Nat) (most : List Int) (s2 : SlV φ a2 c2 most) (g2 : most.length * 8 ≤ reachBytes ∧ ∀ y ∈ most, IsI64 y) (total : Int) (gt : IsI64 total) :
    Calls Try.prog 4 #[.slice a0 ws.length c0, .slice a1 least.length c1, .slice a2 most.length c2, .int .i64 total] w fun e w' => e = .returned (.bool true) ∧ Below w.heap.size w w' := by
  have hm : ws.length ≤ 9223372036854775807 ∧ least.length ≤ 9223372036854775807 ∧ most.length ≤ 9223372036854775807 := by
    have h0 := g0.1; have h1 := g1.1; have h2 := g2.1; unfold reachBytes at h0 h1 h2; omega
  clear g0 g1 g2
  have HM := Lib.hid hm
  clear hm
  have HC := Lib.hid (AllocF_cases ws least most total)
  go_enter Try.func4, Try.ntmps4
  go_wp2_with fail
  refine (Allocate_any a0 a1 a2 c0 c1 c2 ws least most total w φ hφ s0 s1 s2 HM.out).mono ?_
  rintro e w1 ⟨b1, d1, φ1, rfl, hi1, hs1⟩
  rcases HC.out with ⟨f, hf, hF⟩ | ⟨r, hF, hl, hg, hfair, hsum⟩
  · rw [hF] at hs1 ⊢
    have hfb : (f != 0) = true := by simp [hf]
    clear hF hf
    go_wp2
    go_ret
    exact ⟨ret_bool (by simp), hi1.bel⟩
  · rw [hF] at hs1 ⊢
    have HS := Lib.hid hsum
    have hlr : Hid (r.length = ws.length) := Lib.hid hg.l3
    have l1 : Hid (least.length = ws.length) := Lib.hid hg.l1
    have l2 : Hid (most.length = ws.length) := Lib.hid hg.l2
    have G := Lib.hid hg
    have HF := Lib.hid hfair
    dsimp only at hs1 ⊢
    rw [l1.out, l2.out, hlr.out]
    clear hF hsum hg hfair HC HM
    generalize hn : ws.length = n at *
    have hn := Lib.hid hn
    go_wp2
    go_loopw [11, 31] (fun s i wr => ∃ k : Nat, k ≤ n ∧ i = .int .i64 k ∧ s = .int .i64 (sumL (r.take k)) ∧ Inv w.heap.size w φ φ1 wr) (fun _ i _ => n - (intOf i).toNat)
    case atStart => exact ⟨0, Nat.zero_le _, rfl, rfl, hi1⟩
    case round =>
      obtain ⟨i, hik, rfl, rfl, hi⟩ := hrel
      clear hi1
      have hsb : Hid (0 ≤ sumL (r.take i) ∧ sumL (r.take i) ≤ 40 * 5000) := Lib.hid (by
        have := sumL_bd 5000 (r.take i) (fun x hx => by
          obtain ⟨j, hj, rfl⟩ := List.getElem_of_mem (List.mem_of_mem_take hx)
          have h1 := G.out.lo j (by rw [hn.out, ← hlr.out]; exact hj)
          have h2 := G.out.hi j (by rw [hn.out, ← hlr.out]; exact hj)
          rw [getD_elem _ _ hj] at h1 h2
          omega)
        have hl : (r.take i).length ≤ 40 := Nat.le_trans (List.length_take_le _ _) (by omega)
        omega)
      have hsb1 := hsb.out
      by_cases hlt : i < n
      · obtain ⟨b1', o1, rfl, f1⟩ := s1.intsD l1 hlt
        obtain ⟨b2', o2, rfl, f2⟩ := s2.intsD l2 hlt
        obtain ⟨b0', o0, rfl, f0⟩ := s0.intsD hn hlt
        obtain ⟨b3', o3, rfl, f3⟩ := hs1.intsD hlr hlt
        have hf0 := hi.fz.sub hi.le
        have k1 := (f1 i hlt wr hf0).2
        have k2 := (f2 i hlt wr hf0).2
        have k3 := (f3 i hlt wr hi.fz).2
        have hlo := G.out.lo i (by rw [hn.out]; exact hlt)
        have hhi := G.out.hi i (by rw [hn.out]; exact hlt)
        have hlti : (i : Int) < n := by omega
        have hni : Hid (r.getD i 0 = r.getD i 0) := Lib.hid rfl
        have hsn := Lib.hid (getD_take_sum r i n hlr.out hlt)
        have hwi := G.out.ws0 i (by rw [hn.out]; exact hlt)
        have hfi := Lib.hid (fun k hk => HF.out i k (by rw [hn.out]; exact hlt) hk)
        generalize hN : r.getD i 0 = N at *
        generalize hL : least.getD i 0 = L at *
        generalize hM : most.getD i 0 = M at *
        have hN := Lib.hid hN
        have hL := Lib.hid hL
        have hM := Lib.hid hM
        have F0 := Lib.hid f0
        have F1 := Lib.hid f1
        have F2 := Lib.hid f2
        have F3 := Lib.hid f3
        clear f0 f1 f2 f3
        go_wp2
        go_loopw [55] (fun i wr => ∃ k : Nat, k ≤ n ∧ i = .int .i64 k ∧ Inv w.heap.size w φ φ1 wr) (fun i _ => n - (intOf i).toNat)
        case atStart => exact ⟨0, Nat.zero_le _, rfl, hi⟩
        case round =>
          obtain ⟨k, hk, rfl, hi⟩ := hrel
          clear k1 k2 k3
          by_cases hkn : k < n
          · have hf0 := hi.fz.sub hi.le
            have k1 := (F1.out i hlt wr hf0).2
            have k2 := (F2.out k hkn wr hf0).2
            have k3 := (F3.out k hkn wr hi.fz).2
            have k4 := (F0.out k hkn wr hf0).2
            have k5 := (F0.out i hlt wr hf0).2
            rw [hL.out] at k1
            have hkni : (k : Int) < n := by omega
            have hfk := Lib.hid (hfi.out k (by rw [hn.out]; exact hkn))
            have hwk := G.out.ws0 k (by rw [hn.out]; exact hkn)
            have hlok := G.out.lo k (by rw [hn.out]; exact hkn)
            have hhik := G.out.hi k (by rw [hn.out]; exact hkn)
            have hb1 : 0 ≤ r.getD k 0 ∧ r.getD k 0 ≤ 5000 := by omega
            clear hlok hhik
            generalize r.getD k 0 = mm at *
            generalize most.getD k 0 = mk at *
            generalize ws.getD k 0 = wk at *
            generalize ws.getD i 0 = wi at *
            by_cases e1 : i = k
            · subst e1
              have d1 : ((i : Int) != i) = false := by simp
              go_wp2_with fail
              go_quiet (fail)
              go_wp2
              go_roundw
              case rel => exact ⟨i + 1, by omega, by go_num, hi.drewN _⟩
              case measure => simp [intOf]; omega
            · have d1 : ((i : Int) != k) = true := by simp; omega
              by_cases e2 : L < N
              · by_cases e3 : mm < mk
                · have p1 : 0 ≤ wk * (2 * N - 1) ∧ wk * (2 * N - 1) ≤ 1000000000 * 10001 := ⟨Int.mul_nonneg (by omega) (by omega), Int.mul_le_mul (by omega) (by omega) (by omega) (by omega)⟩
                  have p2 : 0 ≤ wi * (2 * mm + 1) ∧ wi * (2 * mm + 1) ≤ 1000000000 * 10001 := ⟨Int.mul_nonneg (by omega) (by omega), Int.mul_le_mul (by omega) (by omega) (by omega) (by omega)⟩
                  have hfin : decide (wi * (2 * mm + 1) < wk * (2 * N - 1)) = false := by
                    have := hfk.out e2 e3
                    rw [decide_eq_false_iff_not]; omega
                  have HI := Lib.hid hi
                  have q1 : IntKind.i64.wrap (2 * N) = 2 * N := IntWalk.i64_in _ (by omega)
                  have q2 : IntKind.i64.wrap (2 * N - 1) = 2 * N - 1 := IntWalk.i64_in _ (by omega)
                  have q3 : IntKind.i64.wrap (2 * mm) = 2 * mm := IntWalk.i64_in _ (by omega)
                  have q4 : IntKind.i64.wrap (2 * mm + 1) = 2 * mm + 1 := IntWalk.i64_in _ (by omega)
                  have q5 : IntKind.i64.wrap (wk * (2 * N - 1)) = wk * (2 * N - 1) := IntWalk.i64_in _ (by omega)
                  have q6 : IntKind.i64.wrap (wi * (2 * mm + 1)) = wi * (2 * mm + 1) := IntWalk.i64_in _ (by omega)
                  go_wp2_with fail
                  go_quiet (fail)
                  clear q1 q2 q3 q4 q5 q6
                  go_wp2
                  go_roundw
                  case rel => exact ⟨k + 1, by omega, by go_num, HI.out.drewN _⟩
                  case measure => simp [intOf]; omega
                · have d3 : decide (mm < mk) = false := decide_eq_false e3
                  go_wp2_with fail
                  go_quiet (fail)
                  go_wp2
                  go_roundw
                  case rel => exact ⟨k + 1, by omega, by go_num, hi.drewN _⟩
                  case measure => simp [intOf]; omega
              · have d2 : decide (L < N) = false := decide_eq_false e2
                go_wp2_with fail
                go_quiet (fail)
                go_wp2
                go_roundw
                case rel => exact ⟨k + 1, by omega, by go_num, hi.drewN _⟩
                case measure => simp [intOf]; omega
          · go_wp2
            go_roundw
            case rel => exact ⟨i + 1, by omega, by go_num, by rw [hsn.out], hi⟩
            case measure => simp [intOf]; omega
      · obtain rfl : i = n := by omega
        have eS : sumL (r.take i) = total := by rw [← hlr.out, List.take_length]; exact HS.out
        rw [eS] at hsb1 ⊢
        go_wp2
        go_ret
        exact ⟨ret_bool (by simp), hi.bel⟩
end Go.Proofs.Ytmgdeenjdoennaa
