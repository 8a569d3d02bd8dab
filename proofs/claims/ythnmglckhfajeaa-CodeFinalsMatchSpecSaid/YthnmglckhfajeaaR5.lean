/- The walk of the reference's CheckCodings. Conditions: none beyond what the claim form gives. -/
import Derived.Test.YthnmglckhfajeaaR4
namespace Go.Proofs.Ythnmglckhfajeaa
open Go.RowKit
set_option linter.unusedVariables false

theorem ix_none {l : List Nod} {c : Int} : (ix l c).isSome = false ↔ ix l c = none := by cases ix l c <;> simp
theorem frc_at {l : List Nod} {cs : List Cdg} {q : Int} (h : treeF l = 0) (h2 : cdgF l cs = q) : frcF l cs = q := by rw [frcF, if_neg (by simp [h]), h2]
set_option maxRecDepth 100000 in
set_option maxHeartbeats 2000000 in
theorem RCheckCodings_any {w : World} {a : Option Addr} {c n : Nat} {l : List Nod} {φ : Phi} (hφ : Fz φ w) (s : SlV φ a c l) (hn : Hid (l.length = n)) (hm : n ≤ 9223372036854775807) {ac : Option Addr} {cc nc : Nat} {cs : List Cdg} (sc : SlV φ ac cc cs) (hnc : Hid (cs.length = nc)) (hmc : nc ≤ 9223372036854775807) :
    Calls Try.prog 15 #[.slice a n c, .slice ac nc cc] w (IntB (frcF l cs) w) := by
  go_enter Try.func15, Try.ntmps15
  go_wp2_with fail
  refine (CheckFrame_any n a c l w φ hφ s hn hm).mono ?_
  rintro e w1 ⟨rfl, hb⟩
  obtain ⟨q, hq⟩ : ∃ q, Hid (treeF l = q) := ⟨_, Lib.hid rfl⟩
  rw [hq.out]
  have HB := Lib.hid hb
  clear hb
  by_cases h0 : q = 0
  case neg =>
    have hg : ((q : Int) != 0) = true := by simp [h0]
    have H0 := Lib.hid h0
    clear h0
    go_wp2
    go_ret
    exact ⟨ret_int (by rw [frcF, hq.out, if_pos H0.out]), HB.out⟩
  subst h0
  have H0 := hq
  have HT : Hid (TrOk l n) := Lib.hid (by have := treeF_zero hq.out; rwa [hn.out] at this)
  have HFR : Hid (FrOk l n) := Lib.hid HT.out.toFrOk
  by_cases hl : 20000 < nc
  · go_wp2
    go_ret
    exact ⟨ret_int (by rw [frcF, H0.out, if_neg (by simp), cdgF, hnc.out, if_pos hl]), HB.out⟩
  go_wp2
  go_loopw [19] (fun i wr => ∃ k : Nat, k ≤ nc ∧ i = .int .i64 k ∧ Hid (∀ i, i < k → cdgBad l cs i = 0) ∧ Below w.heap.size w wr) (fun i _ => nc - (intOf i).toNat)
  case atStart => exact ⟨0, Nat.zero_le _, rfl, none_yet _, HB.out⟩
  case round =>
    obtain ⟨k, hk, rfl, hok, hbel⟩ := hrel
    by_cases hlt : k < nc
    · obtain ⟨b, off, rfl, f⟩ := sc.cdgD hnc hlt
      have hf := hφ.below hbel
      obtain ⟨hb, c1, c2, c3⟩ := f k hlt wr hf
      have hbad : Hid (cdgBad l cs k = _) := Lib.hid (cdgBad.eq_1 l cs k)
      have HP : Hid (0 < k → ∀ W, Fz φ W → W.cell? ⟨b, off + (k - 1) * 3, none⟩ = some (.int .i64 (cs.getD (k - 1) cdg0).1) ∧ W.cell? ⟨b, off + (k - 1) * 3 + 1, none⟩ = some (.int .i64 (cs.getD (k - 1) cdg0).2.1) ∧ W.cell? ⟨b, off + (k - 1) * 3 + 2, none⟩ = some (.int .i64 (cs.getD (k - 1) cdg0).2.2)) := Lib.hid (fun h W hW => (f (k - 1) (by omega) W hW).2)
      clear f
      generalize (cs.getD k cdg0).1 = x1 at *
      generalize (cs.getD k cdg0).2.1 = x2 at *
      generalize (cs.getD k cdg0).2.2 = x3 at *
      generalize (cs.getD (k - 1) cdg0).1 = y1 at *
      generalize (cs.getD (k - 1) cdg0).2.1 = y2 at *
      generalize (cs.getD (k - 1) cdg0).2.2 = y3 at *
      have HBX := Lib.hid (hbel.alloc hbel.size (.cells #[.int .i64 x1, .int .i64 x2, .int .i64 x3] 32))
      obtain ⟨o1, ho1⟩ : ∃ o, Hid (outB x2 1 50 = o) := ⟨_, Lib.hid rfl⟩
      obtain ⟨q, hq⟩ : ∃ o, Hid (ix l x3 = o) := ⟨_, Lib.hid rfl⟩
      by_cases hx1 : x1 < 1
      · go_wp2
        go_ret
        exact ⟨ret_int (frc_at H0.out (cdgF_at hnc (by omega) hlt hok (by rw [hbad.out]; rw [if_pos hx1]) (by decide))).symm, HBX.out⟩
      have HX1 := Lib.hid hx1
      cases o1
      case true =>
        go_wp2_with fail
        refine (within_b _ _ _ _ ho1.out).mono ?_
        rintro e w' ⟨rfl, rfl⟩
        go_wp2
        go_ret
        exact ⟨ret_int (frc_at H0.out (cdgF_at hnc (by omega) hlt hok (by rw [hbad.out]; rw [if_neg (by have := HX1.out; omega), if_pos ho1.out]) (by decide))).symm, HBX.out⟩
      cases q with
      | none =>
        go_wp2_with fail
        refine (within_b _ _ _ _ ho1.out).mono ?_
        rintro e w' ⟨rfl, rfl⟩
        go_wp2_with fail
        refine (find_any (hφ.below HBX.out) s HFR x3).mono ?_
        rintro e w2 ⟨rfl, hb1⟩
        have HB2 := Lib.hid (HBX.out.trans (hb1.mono HBX.out.size))
        have b0 : w2.cell? ⟨wr.heap.size, 0, none⟩ = some (.int .i64 x1) := (hb1.cell (p := ⟨wr.heap.size, 0, none⟩) (by simp)).trans (box_at 0)
        have b1 : w2.cell? ⟨wr.heap.size, 1, none⟩ = some (.int .i64 x2) := (hb1.cell (p := ⟨wr.heap.size, 1, none⟩) (by simp)).trans (box_at 1)
        have hlt2 : wr.heap.size < w2.heap.size := by have := hb1.size; simp at this; omega
        clear hb1
        rw [fdI_none hq.out]
        go_wp2
        go_ret
        exact ⟨ret_int (frc_at H0.out (cdgF_at hnc (by omega) hlt hok (by rw [hbad.out]; rw [if_neg (by have := HX1.out; omega), if_neg (by rw [ho1.out]; simp), if_pos (ix_none.2 hq.out)]) (by decide))).symm, HB2.out⟩
      | some iq =>
        have hi0 : decide ((iq : Int) < 0) = false := decide_eq_false (by omega)
        have hb3 : Hid (cdgBad l cs k = if k = 0 then 0 else if x1 < y1 then 7 else if x1 = y1 then if x2 < y2 then 7 else if x2 = y2 then 6 else 0 else 0) := Lib.hid (by rw [hbad.out, if_neg (by have := HX1.out; omega), if_neg (by rw [ho1.out]; simp), if_neg (by rw [hq.out]; simp)])
        by_cases h0 : k = 0
        · have h0i : ((k : Int) == 0) = true := by simp [h0]
          have HK := Lib.hid h0
          clear h0
          go_wp2_with fail
          refine (within_b _ _ _ _ ho1.out).mono ?_
          rintro e w' ⟨rfl, rfl⟩
          go_wp2_with fail
          refine (find_any (hφ.below HBX.out) s HFR x3).mono ?_
          rintro e w2 ⟨rfl, hb1⟩
          have HB2 := Lib.hid (HBX.out.trans (hb1.mono HBX.out.size))
          have b0 : w2.cell? ⟨wr.heap.size, 0, none⟩ = some (.int .i64 x1) := (hb1.cell (p := ⟨wr.heap.size, 0, none⟩) (by simp)).trans (box_at 0)
          have b1 : w2.cell? ⟨wr.heap.size, 1, none⟩ = some (.int .i64 x2) := (hb1.cell (p := ⟨wr.heap.size, 1, none⟩) (by simp)).trans (box_at 1)
          have hlt2 : wr.heap.size < w2.heap.size := by have := hb1.size; simp at this; omega
          clear hb1
          rw [fdI_some hq.out]
          go_wp2
          go_roundw
          case rel => exact ⟨k + 1, by omega, by go_num, next_ok hok (by rw [hb3.out, if_pos HK.out]), HB2.out⟩
          case measure => simp [intOf]; omega
        · have h0i : ((k : Int) == 0) = false := by simp [h0]
          have hix : 0 ≤ (k : Int) - 1 := by omega
          have hix2 : (k : Int) - 1 < nc := by omega
          have hto : ((k : Int) - 1).toNat = k - 1 := by omega
          have HK := Lib.hid h0
          go_wp2_with fail
          refine (within_b _ _ _ _ ho1.out).mono ?_
          rintro e w' ⟨rfl, rfl⟩
          go_wp2_with fail
          refine (find_any (hφ.below HBX.out) s HFR x3).mono ?_
          rintro e w2 ⟨rfl, hb1⟩
          have HB2 := Lib.hid (HBX.out.trans (hb1.mono HBX.out.size))
          have b0 : w2.cell? ⟨wr.heap.size, 0, none⟩ = some (.int .i64 x1) := (hb1.cell (p := ⟨wr.heap.size, 0, none⟩) (by simp)).trans (box_at 0)
          have b1 : w2.cell? ⟨wr.heap.size, 1, none⟩ = some (.int .i64 x2) := (hb1.cell (p := ⟨wr.heap.size, 1, none⟩) (by simp)).trans (box_at 1)
          have hlt2 : wr.heap.size < w2.heap.size := by have := hb1.size; simp at this; omega
          clear hb1
          rw [fdI_some hq.out]
          obtain ⟨p1, p2, p3⟩ := HP.out (by omega) w2 (hφ.below HB2.out)
          have hbel3 : ∀ o, Below w.heap.size w (w2.alloc o) := fun o => HB2.out.alloc HB2.out.size o
          go_wp2
          all_goals clear hto
          all_goals first
            | (go_ret; exact ⟨ret_int (frc_at H0.out (cdgF_at hnc (by omega) hlt hok (by rw [hb3.out, if_neg HK.out]; ((repeat' split) <;> (first | rfl | omega | (simp_all; done) | (exfalso; simp_all; omega) | (simp_all; omega)))) (by decide))).symm, hbel3 _⟩)
            | (go_roundw
               case rel => exact ⟨k + 1, by omega, by go_num, next_ok hok (by rw [hb3.out, if_neg HK.out]; ((repeat' split) <;> (first | rfl | omega | (simp_all; done) | (exfalso; simp_all; omega) | (simp_all; omega)))), hbel3 _⟩
               case measure => simp [intOf]; omega)
    · obtain rfl : k = nc := by omega
      go_wp2
      go_ret
      exact ⟨ret_int (frc_at H0.out (cdgF_ok hnc (by omega) hok)).symm, hbel⟩
end Go.Proofs.Ythnmglckhfajeaa
