/- The walk of CheckFrame, the reference's side. Conditions: the library's table of blanks reads as it was laid; texts of a length that a form reaches. -/
import Derived.Test.YtnlhalnjbkpdnaaDoorZ6
import Derived.Test.YtnlhalnjbkpdnaaDoorQ1
namespace Go.Proofs.YtnlhalnjbkpdnaaDoor
open Go.RowKit Go.Sort
set_option linter.unusedVariables false
set_option linter.unusedSimpArgs false
/-- A unit in a box, nothing else turned. -/
structure UbS (w0 : World) (bj : Nat) (u1 : Int) (u2 : ByteArray) (u3 u4 : Int) (W : World) : Prop where
  bel : Below w0.heap.size w0 W
  k : Blk W bj #[.int .i64 u1, .string u2, .int .i64 u3, .int .i64 u4] 45
theorem UbS.callB {w0 W w' : World} {bj : Nat} {u1 : Int} {u2 : ByteArray} {u3 u4 : Int} (h : UbS w0 bj u1 u2 u3 u4 W) (hb : Below W.heap.size W w') : UbS w0 bj u1 u2 u3 u4 w' := ⟨h.bel.trans (hb.mono h.bel.size), h.k.callB hb⟩
theorem UbS.start {w0 W : World} (h : Below w0.heap.size w0 W) (u1 : Int) (u2 : ByteArray) (u3 u4 : Int) : UbS w0 W.heap.size u1 u2 u3 u4 (W.alloc (.cells #[.int .i64 u1, .string u2, .int .i64 u3, .int .i64 u4] 45)) := ⟨h.alloc h.size _, Blk.new _ _ _⟩
theorem UbS.cells {w0 W : World} {bj : Nat} {u1 : Int} {u2 : ByteArray} {u3 u4 : Int} (h : Hid (UbS w0 bj u1 u2 u3 u4 W)) : W.cell? ⟨bj, 0, none⟩ = some (.int .i64 u1) ∧ W.cell? ⟨bj, 1, none⟩ = some (.string u2) ∧ W.cell? ⟨bj, 2, none⟩ = some (.int .i64 u3) ∧ W.cell? ⟨bj, 3, none⟩ = some (.int .i64 u4) := ⟨h.out.k.cell 0, h.out.k.cell 1, h.out.k.cell 2, h.out.k.cell 3⟩
theorem outU {u3 u4 : Int} : (outB u3 0 5000 = true ∨ outB u4 1 1000000 = true) ↔ (u3 < 0 ∨ 5000 < u3 ∨ u4 < 1 ∨ 1000000 < u4) := by
  unfold outB
  simp
  omega
theorem frm_stop {l : List Unt} {n k : Nat} (hn : l.length = n) (hl : n ≤ 5000) (hk : k < n) (h : ∀ i, i < k → uBad l i = 0) {q : Int} (hq : uBad l k = q) (h0 : q ≠ 0) : frmU l = q := by
  unfold frmU
  rw [if_neg (by omega), hn, scan_stop h hk (by rw [hq]; exact h0), hq, if_pos h0]
theorem frm_end {l : List Unt} {n : Nat} (hn : l.length = n) (hl : n ≤ 5000) (h : ∀ i, i < n → uBad l i = 0) : frmU l = if 40 < (nmsL l).length then 2 else 0 := by
  unfold frmU
  rw [if_neg (by omega), hn, scan_zero _ _ h, if_neg (by simp)]
set_option maxRecDepth 100000 in
set_option maxHeartbeats 4000000 in
theorem RCheckFrame_any {w : World} {a : Option Addr} {c n : Nat} {l : List Unt} {φ : Phi} (hφ : Fz φ w) (ht : TabP φ) (s : SlV φ a c l) (hn : Hid (l.length = n)) (hm : n ≤ 9223372036854775807) (hs : Hid (∀ u ∈ l, u.2.1.size ≤ reachBytes)) :
    Calls Tryd.prog 7 #[.slice a n c] w (fun e w' => e = .returned (.int .i64 (frmU l)) ∧ Below w.heap.size w w') := by
  have HF := Lib.hid hφ
  have HT := Lib.hid ht
  clear ht
  by_cases hl : 5000 < n
  · have hf : Hid (frmU l = 2) := Lib.hid (by unfold frmU; rw [if_pos (by rw [hn.out]; exact hl)])
    go_enter Tryd.func7, Tryd.ntmps7
    go_wp2
    go_ret
    exact ⟨ret_int hf.out.symm, Below.refl _ _⟩
  have hl : n ≤ 5000 := by omega
  go_enter Tryd.func7, Tryd.ntmps7
  go_wp2
  go_loopw [10] (fun i wr => ∃ k : Nat, k ≤ n ∧ i = .int .i64 k ∧ Hid (∀ i, i < k → uBad l i = 0) ∧ Hid (Below w.heap.size w wr)) (fun i _ => n - (intOf i).toNat)
  case atStart => exact ⟨0, Nat.zero_le _, rfl, Lib.hid (none_yet _), Lib.hid (Below.refl _ _)⟩
  case round =>
    obtain ⟨k, hk, rfl, hok, hB⟩ := hrel
    by_cases hlt : k < n
    · obtain ⟨b, off, rfl, f⟩ := s.untD hn hlt
      obtain ⟨hb, c1, c2, c3, c4⟩ := f k hlt wr (hφ.below hB.out)
      have hp : 0 < k → ∀ o, (wr.alloc o).cell? ⟨b, off + (k - 1) * 4, none⟩ = some (.int .i64 (l.getD (k - 1) unt0).1) := fun h o => (f (k - 1) (by omega) (wr.alloc o) ((hφ.below hB.out).alloc o)).2.1
      have hbad : Hid (uBad l k = _) := Lib.hid (uBad.eq_1 l k)
      have hsu : Hid ((l.getD k unt0).2.1.size ≤ reachBytes) := Lib.hid (hs.out _ (by rw [getD_elem0 _ _ _ (by rw [hn.out]; exact hlt)]; exact List.getElem_mem _))
      have HP := Lib.hid hp
      clear f hp
      generalize (l.getD (k - 1) unt0).1 = p at *
      generalize hU : l.getD k unt0 = U at *
      obtain ⟨u1, u2, u3, u4⟩ := U
      dsimp only at c1 c2 c3 c4 hsu hbad
      have hB2 := Lib.hid (UbS.start hB.out u1 u2 u3 u4)
      clear hU
      go_upto_region 6 with (fail)
      have HP := Lib.hid (fun h => HP.out h (.cells #[.int .i64 u1, .string u2, .int .i64 u3, .int .i64 u4] 45))
      clear c1 c2 c3 c4 hb hB
      generalize wr.alloc (.cells #[.int .i64 u1, .string u2, .int .i64 u3, .int .i64 u4] 45) = wj at *
      generalize wr.heap.size = bj at *
      obtain ⟨y0, y1, y2, y3⟩ := UbS.cells hB2
      by_cases ha : u1 < 1
      · have HA := Lib.hid ha
        go_wp2
        go_ret
        exact ⟨ret_int (frm_stop hn.out hl hlt hok.out (by rw [hbad.out, if_pos HA.out]) (by decide)).symm, hB2.out.bel⟩
      have HA := Lib.hid ha
      have g0 : decide (u1 < 1) = false := decide_eq_false ha
      clear ha
      by_cases h3 : 0 < k
      · have hpp := HP.out h3
        have h3i : (0 : Int) < k := by omega
        have hix : 0 ≤ (k : Int) - 1 := by omega
        have hix2 : (k : Int) - 1 < n := by omega
        have hw1 : IntKind.i64.wrap ((k : Int) - 1) = k - 1 := IntWalk.i64_in _ (by omega)
        have hto : ((k : Int) - 1).toNat = k - 1 := by omega
        by_cases h4 : u1 ≤ p
        · have e7 : Hid (uBad l k = 7) := Lib.hid (by rw [hbad.out, if_neg HA.out, if_pos ⟨h3, h4⟩])
          go_upto_region 8 with (fail)
          go_quiet (fail)
          go_wp2
          go_ret
          exact ⟨ret_int (frm_stop hn.out hl hlt hok.out e7.out (by decide)).symm, bdrewN hB2.out.bel _⟩
        have hb2 : Hid (uBad l k = _) := Lib.hid (by rw [hbad.out, if_neg HA.out, if_neg (fun q => h4 q.2)])
        have g5 : decide (u1 ≤ p) = false := decide_eq_false h4
        clear h4
        go_upto_region 8 with (fail)
        go_quiet (fail)
        have hB2 : Hid (UbS w bj u1 u2 u3 u4 (wj.drewN nq)) := Lib.hid (hB2.out.callB (bdrewN (Below.refl _ wj) nq))
        clear y0 y1 y2 y3
        obtain ⟨y0, y1, y2, y3⟩ := UbS.cells hB2
        go_upto_region 10 with (fail)
        obtain ⟨nb, hnb⟩ : ∃ b, Hid (nameB u2 = b) := ⟨_, Lib.hid rfl⟩
        cases nb with
        | false =>
          have e5 : Hid (uBad l k = 5) := Lib.hid (by rw [hb2.out, if_pos hnb.out])
          go_wp2_with (go_at_call 15; (with_reducible refine (RIsName_any u2 _ φ (HF.out.below hB2.out.bel) HT.out hsu.out hnb).mono ?_); rintro e w9 ⟨rfl, hb9⟩; have hB9 := Lib.hid (hB2.out.callB hb9); clear hb9; obtain ⟨z0, z1, z2, z3⟩ := UbS.cells hB9)
          go_ret
          exact ⟨ret_int (frm_stop hn.out hl hlt hok.out e5.out (by decide)).symm, hB9.out.bel⟩
        | true =>
          have HN : Hid (¬ nameB u2 = false) := Lib.hid (by rw [hnb.out]; simp)
          by_cases d1 : u3 < 0
          · have HD : Hid (outB u3 0 5000 = true ∨ outB u4 1 1000000 = true) := Lib.hid (outU.2 (by omega))
            have e5 : Hid (uBad l k = 1) := Lib.hid (by rw [hb2.out, if_neg HN.out, if_pos HD.out])
            go_wp2_with (go_at_call 15; (with_reducible refine (RIsName_any u2 _ φ (HF.out.below hB2.out.bel) HT.out hsu.out hnb).mono ?_); rintro e w9 ⟨rfl, hb9⟩; have hB9 := Lib.hid (hB2.out.callB hb9); clear hb9; obtain ⟨z0, z1, z2, z3⟩ := UbS.cells hB9)
            go_ret
            exact ⟨ret_int (frm_stop hn.out hl hlt hok.out e5.out (by decide)).symm, hB9.out.bel⟩
          by_cases d2 : 5000 < u3
          · have HD : Hid (outB u3 0 5000 = true ∨ outB u4 1 1000000 = true) := Lib.hid (outU.2 (by omega))
            have g1 : decide (u3 < 0) = false := decide_eq_false d1
            have e5 : Hid (uBad l k = 1) := Lib.hid (by rw [hb2.out, if_neg HN.out, if_pos HD.out])
            go_wp2_with (go_at_call 15; (with_reducible refine (RIsName_any u2 _ φ (HF.out.below hB2.out.bel) HT.out hsu.out hnb).mono ?_); rintro e w9 ⟨rfl, hb9⟩; have hB9 := Lib.hid (hB2.out.callB hb9); clear hb9; obtain ⟨z0, z1, z2, z3⟩ := UbS.cells hB9)
            go_ret
            exact ⟨ret_int (frm_stop hn.out hl hlt hok.out e5.out (by decide)).symm, hB9.out.bel⟩
          by_cases d3 : u4 < 1
          · have HD : Hid (outB u3 0 5000 = true ∨ outB u4 1 1000000 = true) := Lib.hid (outU.2 (by omega))
            have g1 : decide (u3 < 0) = false := decide_eq_false d1
            have g2 : decide (u3 > 5000) = false := decide_eq_false d2
            have e5 : Hid (uBad l k = 1) := Lib.hid (by rw [hb2.out, if_neg HN.out, if_pos HD.out])
            go_wp2_with (go_at_call 15; (with_reducible refine (RIsName_any u2 _ φ (HF.out.below hB2.out.bel) HT.out hsu.out hnb).mono ?_); rintro e w9 ⟨rfl, hb9⟩; have hB9 := Lib.hid (hB2.out.callB hb9); clear hb9; obtain ⟨z0, z1, z2, z3⟩ := UbS.cells hB9)
            go_ret
            exact ⟨ret_int (frm_stop hn.out hl hlt hok.out e5.out (by decide)).symm, hB9.out.bel⟩
          by_cases d4 : 1000000 < u4
          · have HD : Hid (outB u3 0 5000 = true ∨ outB u4 1 1000000 = true) := Lib.hid (outU.2 (by omega))
            have g1 : decide (u3 < 0) = false := decide_eq_false d1
            have g2 : decide (u3 > 5000) = false := decide_eq_false d2
            have g3 : decide (u4 < 1) = false := decide_eq_false d3
            have e5 : Hid (uBad l k = 1) := Lib.hid (by rw [hb2.out, if_neg HN.out, if_pos HD.out])
            go_wp2_with (go_at_call 15; (with_reducible refine (RIsName_any u2 _ φ (HF.out.below hB2.out.bel) HT.out hsu.out hnb).mono ?_); rintro e w9 ⟨rfl, hb9⟩; have hB9 := Lib.hid (hB2.out.callB hb9); clear hb9; obtain ⟨z0, z1, z2, z3⟩ := UbS.cells hB9)
            go_ret
            exact ⟨ret_int (frm_stop hn.out hl hlt hok.out e5.out (by decide)).symm, hB9.out.bel⟩
          have e5 : Hid (uBad l k = 0) := Lib.hid (by rw [hb2.out, if_neg HN.out, if_neg (fun q => by have := outU.1 q; omega)])
          have g1 : decide (u3 < 0) = false := decide_eq_false d1
          have g2 : decide (u3 > 5000) = false := decide_eq_false d2
          have g3 : decide (u4 < 1) = false := decide_eq_false d3
          have g4 : decide (u4 > 1000000) = false := decide_eq_false d4
          go_wp2_with (go_at_call 15; (with_reducible refine (RIsName_any u2 _ φ (HF.out.below hB2.out.bel) HT.out hsu.out hnb).mono ?_); rintro e w9 ⟨rfl, hb9⟩; have hB9 := Lib.hid (hB2.out.callB hb9); clear hb9; obtain ⟨z0, z1, z2, z3⟩ := UbS.cells hB9)
          go_roundw
          case rel => exact ⟨k + 1, by omega, by go_num, Lib.hid (next_ok hok.out e5.out), Lib.hid hB9.out.bel⟩
          case measure => (simp [intOf] <;> omega)
      · have h3i : decide ((0 : Int) < k) = false := decide_eq_false (by omega)
        have hb2 : Hid (uBad l k = _) := Lib.hid (by rw [hbad.out, if_neg HA.out, if_neg (fun q => h3 q.1)])
        go_upto_region 8 with (fail)
        go_quiet (fail)
        have hB2 : Hid (UbS w bj u1 u2 u3 u4 (wj.drewN nq)) := Lib.hid (hB2.out.callB (bdrewN (Below.refl _ wj) nq))
        clear y0 y1 y2 y3
        obtain ⟨y0, y1, y2, y3⟩ := UbS.cells hB2
        go_upto_region 10 with (fail)
        obtain ⟨nb, hnb⟩ : ∃ b, Hid (nameB u2 = b) := ⟨_, Lib.hid rfl⟩
        cases nb with
        | false =>
          have e5 : Hid (uBad l k = 5) := Lib.hid (by rw [hb2.out, if_pos hnb.out])
          go_wp2_with (go_at_call 15; (with_reducible refine (RIsName_any u2 _ φ (HF.out.below hB2.out.bel) HT.out hsu.out hnb).mono ?_); rintro e w9 ⟨rfl, hb9⟩; have hB9 := Lib.hid (hB2.out.callB hb9); clear hb9; obtain ⟨z0, z1, z2, z3⟩ := UbS.cells hB9)
          go_ret
          exact ⟨ret_int (frm_stop hn.out hl hlt hok.out e5.out (by decide)).symm, hB9.out.bel⟩
        | true =>
          have HN : Hid (¬ nameB u2 = false) := Lib.hid (by rw [hnb.out]; simp)
          by_cases d1 : u3 < 0
          · have HD : Hid (outB u3 0 5000 = true ∨ outB u4 1 1000000 = true) := Lib.hid (outU.2 (by omega))
            have e5 : Hid (uBad l k = 1) := Lib.hid (by rw [hb2.out, if_neg HN.out, if_pos HD.out])
            go_wp2_with (go_at_call 15; (with_reducible refine (RIsName_any u2 _ φ (HF.out.below hB2.out.bel) HT.out hsu.out hnb).mono ?_); rintro e w9 ⟨rfl, hb9⟩; have hB9 := Lib.hid (hB2.out.callB hb9); clear hb9; obtain ⟨z0, z1, z2, z3⟩ := UbS.cells hB9)
            go_ret
            exact ⟨ret_int (frm_stop hn.out hl hlt hok.out e5.out (by decide)).symm, hB9.out.bel⟩
          by_cases d2 : 5000 < u3
          · have HD : Hid (outB u3 0 5000 = true ∨ outB u4 1 1000000 = true) := Lib.hid (outU.2 (by omega))
            have g1 : decide (u3 < 0) = false := decide_eq_false d1
            have e5 : Hid (uBad l k = 1) := Lib.hid (by rw [hb2.out, if_neg HN.out, if_pos HD.out])
            go_wp2_with (go_at_call 15; (with_reducible refine (RIsName_any u2 _ φ (HF.out.below hB2.out.bel) HT.out hsu.out hnb).mono ?_); rintro e w9 ⟨rfl, hb9⟩; have hB9 := Lib.hid (hB2.out.callB hb9); clear hb9; obtain ⟨z0, z1, z2, z3⟩ := UbS.cells hB9)
            go_ret
            exact ⟨ret_int (frm_stop hn.out hl hlt hok.out e5.out (by decide)).symm, hB9.out.bel⟩
          by_cases d3 : u4 < 1
          · have HD : Hid (outB u3 0 5000 = true ∨ outB u4 1 1000000 = true) := Lib.hid (outU.2 (by omega))
            have g1 : decide (u3 < 0) = false := decide_eq_false d1
            have g2 : decide (u3 > 5000) = false := decide_eq_false d2
            have e5 : Hid (uBad l k = 1) := Lib.hid (by rw [hb2.out, if_neg HN.out, if_pos HD.out])
            go_wp2_with (go_at_call 15; (with_reducible refine (RIsName_any u2 _ φ (HF.out.below hB2.out.bel) HT.out hsu.out hnb).mono ?_); rintro e w9 ⟨rfl, hb9⟩; have hB9 := Lib.hid (hB2.out.callB hb9); clear hb9; obtain ⟨z0, z1, z2, z3⟩ := UbS.cells hB9)
            go_ret
            exact ⟨ret_int (frm_stop hn.out hl hlt hok.out e5.out (by decide)).symm, hB9.out.bel⟩
          by_cases d4 : 1000000 < u4
          · have HD : Hid (outB u3 0 5000 = true ∨ outB u4 1 1000000 = true) := Lib.hid (outU.2 (by omega))
            have g1 : decide (u3 < 0) = false := decide_eq_false d1
            have g2 : decide (u3 > 5000) = false := decide_eq_false d2
            have g3 : decide (u4 < 1) = false := decide_eq_false d3
            have e5 : Hid (uBad l k = 1) := Lib.hid (by rw [hb2.out, if_neg HN.out, if_pos HD.out])
            go_wp2_with (go_at_call 15; (with_reducible refine (RIsName_any u2 _ φ (HF.out.below hB2.out.bel) HT.out hsu.out hnb).mono ?_); rintro e w9 ⟨rfl, hb9⟩; have hB9 := Lib.hid (hB2.out.callB hb9); clear hb9; obtain ⟨z0, z1, z2, z3⟩ := UbS.cells hB9)
            go_ret
            exact ⟨ret_int (frm_stop hn.out hl hlt hok.out e5.out (by decide)).symm, hB9.out.bel⟩
          have e5 : Hid (uBad l k = 0) := Lib.hid (by rw [hb2.out, if_neg HN.out, if_neg (fun q => by have := outU.1 q; omega)])
          have g1 : decide (u3 < 0) = false := decide_eq_false d1
          have g2 : decide (u3 > 5000) = false := decide_eq_false d2
          have g3 : decide (u4 < 1) = false := decide_eq_false d3
          have g4 : decide (u4 > 1000000) = false := decide_eq_false d4
          go_wp2_with (go_at_call 15; (with_reducible refine (RIsName_any u2 _ φ (HF.out.below hB2.out.bel) HT.out hsu.out hnb).mono ?_); rintro e w9 ⟨rfl, hb9⟩; have hB9 := Lib.hid (hB2.out.callB hb9); clear hb9; obtain ⟨z0, z1, z2, z3⟩ := UbS.cells hB9)
          go_roundw
          case rel => exact ⟨k + 1, by omega, by go_num, Lib.hid (next_ok hok.out e5.out), Lib.hid hB9.out.bel⟩
          case measure => (simp [intOf] <;> omega)
    · obtain rfl : n = k := by omega
      have hfe := Lib.hid (frm_end hn.out hl hok.out)
      obtain ⟨q, hq⟩ : ∃ q, Hid ((nmsL l).length = q) := ⟨_, Lib.hid rfl⟩
      rw [hq.out] at hfe
      by_cases h40 : 40 < q
      · have g4 : decide ((q : Int) > 40) = true := decide_eq_true (by omega)
        have H4 : Hid (frmU l = 2) := Lib.hid (by rw [hfe.out, if_pos h40])
        clear h40 hfe
        go_wp2_with (go_at_call 10; (with_reducible refine (Rnames_any (HF.out.below hB.out) s hn hl).mono ?_); rintro e w6 ⟨a6, c6, φ6, rfl, hi6, hs6⟩; rw [hq.out]; have hB6 := Lib.hid (hB.out.trans (hi6.bel.mono hB.out.size)); clear hi6 hs6)
        go_ret
        exact ⟨ret_int H4.out.symm, hB6.out⟩
      · have g4 : decide ((q : Int) > 40) = false := decide_eq_false (by omega)
        have H4 : Hid (frmU l = 0) := Lib.hid (by rw [hfe.out, if_neg h40])
        clear h40 hfe
        go_wp2_with (go_at_call 10; (with_reducible refine (Rnames_any (HF.out.below hB.out) s hn hl).mono ?_); rintro e w6 ⟨a6, c6, φ6, rfl, hi6, hs6⟩; rw [hq.out]; have hB6 := Lib.hid (hB.out.trans (hi6.bel.mono hB.out.size)); clear hi6 hs6)
        go_ret
        exact ⟨ret_int H4.out.symm, hB6.out⟩
end Go.Proofs.YtnlhalnjbkpdnaaDoor
