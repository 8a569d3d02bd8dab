/- The walk of the reference's Lift. Conditions: none beyond what the claim form gives. -/
import Derived.Test.YthnmglckhfajeaaR5
namespace Go.Proofs.Ythnmglckhfajeaa
open Go.RowKit
set_option linter.unusedVariables false

theorem Own.cdgD {B : Nat} {φ : Phi} {w : World} {E : TypeId} {a : Option Addr} {cap : Nat} {xs : List Cdg} (h : Own B φ w E a cap xs) {k n : Nat} (hn : Hid (xs.length = n)) (hk : k < n) :
    ∃ g, a = some ⟨g, 0, none⟩ ∧ B ≤ g ∧ g < w.heap.size ∧ w.cell? ⟨g, k * 3, none⟩ = some (.int .i64 (xs.getD k cdg0).1) ∧ w.cell? ⟨g, k * 3 + 1, none⟩ = some (.int .i64 (xs.getD k cdg0).2.1) ∧ w.cell? ⟨g, k * 3 + 2, none⟩ = some (.int .i64 (xs.getD k cdg0).2.2) ∧ (∀ j, w.frozen? ⟨g, j, none⟩ = false) ∧
      ∀ y w0 φ0, Inv B w0 φ0 φ w → Own B φ (w.setCell ⟨g, k * 3 + 2, none⟩ (.int .i64 y)) E a cap (xs.set k ((xs.getD k cdg0).1, (xs.getD k cdg0).2.1, y)) ∧ Inv B w0 φ0 φ (w.setCell ⟨g, k * 3 + 2, none⟩ (.int .i64 y)) := by
  have hk' : k < xs.length := by rw [hn.out]; exact hk
  obtain ⟨g, rfl, h1, h2, _, h4, hc⟩ := h.elem hk'
  obtain ⟨cs, ⟨c, d, rfl, e1, c2, d2, rfl, e2, e3⟩, hj⟩ := hc k hk'
  cases e1; cases e2; cases e3
  have j0 := hj 0 (by simp)
  have j1 := hj 1 (by simp)
  have j2 := hj 2 (by simp)
  simp [Rep.size] at j0 j1 j2
  rw [getD_elem0 _ _ _ hk']
  refine ⟨g, rfl, h1, h2, j0, j1, j2, h4, fun y w0 φ0 hi => ?_⟩
  exact h.setCell hi hk' (y := (xs[k].1, xs[k].2.1, y)) (j := 2) (u := .int .i64 y) hj rfl (by simp) ⟨[.int .i64 xs[k].1], [.int .i64 xs[k].2.1, .int .i64 y], rfl, rfl, [.int .i64 xs[k].2.1], [.int .i64 y], rfl, rfl, rfl⟩
def lfK (l : List Nod) (lev : Nat) (cs : List Cdg) (k : Nat) : List Cdg := (cs.take k).map (liftX l lev) ++ cs.drop k
theorem lfK_len (l : List Nod) (lev : Nat) (cs : List Cdg) (k : Nat) (hk : k ≤ cs.length) : (lfK l lev cs k).length = cs.length := by unfold lfK; simp; omega
theorem lfK_at (l : List Nod) (lev : Nat) (cs : List Cdg) (k : Nat) (hk : k < cs.length) : (lfK l lev cs k).getD k cdg0 = cs.getD k cdg0 := by
  have hl : ((cs.take k).map (liftX l lev)).length = k := by simp; omega
  unfold lfK
  rw [List.getD_eq_getElem?_getD, List.getElem?_append_right (by omega), hl, Nat.sub_self, List.getElem?_drop, Nat.add_zero, ← List.getD_eq_getElem?_getD]
theorem lfK_set (l : List Nod) (lev : Nat) (cs : List Cdg) (k : Nat) (hk : k < cs.length) : (lfK l lev cs k).set k (liftX l lev (cs.getD k cdg0)) = lfK l lev cs (k + 1) := by
  have hl : ((cs.take k).map (liftX l lev)).length = k := by simp; omega
  unfold lfK
  rw [List.set_append_right _ _ (by omega), hl, Nat.sub_self, take_snocD cdg0 cs k _ rfl hk, List.map_append, List.drop_eq_getElem_cons hk, getD_elem0 _ _ _ hk]
  simp only [List.set_cons_zero, List.map_cons, List.map_nil, List.append_assoc, List.singleton_append]
set_option maxRecDepth 100000 in
set_option maxHeartbeats 2000000 in
theorem RLift_any {w : World} {a : Option Addr} {c n : Nat} {l : List Nod} {φ : Phi} (hφ : Fz φ w) (s : SlV φ a c l) (hn : Hid (l.length = n)) (hm : n ≤ 9223372036854775807) {ac : Option Addr} {cc nc : Nat} {cs : List Cdg} (sc : SlV φ ac cc cs) (hnc : Hid (cs.length = nc)) (hmc : nc ≤ 9223372036854775807) (lev : Int) :
    Calls Try.prog 17 #[.slice a n c, .slice ac nc cc, .int .i64 lev] w (SlPost (liftF l cs lev) φ w) := by
  go_enter Try.func17, Try.ntmps17
  go_wp2_with fail
  refine (RCheckCodings_any hφ s hn hm sc hnc hmc).mono ?_
  rintro e w1 ⟨rfl, hb⟩
  obtain ⟨q, hq⟩ : ∃ q, Hid (frcF l cs = q) := ⟨_, Lib.hid rfl⟩
  rw [hq.out]
  have HB := Lib.hid hb
  clear hb
  by_cases h0 : q = 0
  case neg =>
    have hg : ((q : Int) != 0) = true := by simp [h0]
    have H0 := Lib.hid h0
    clear h0
    go_wp2
    go_ret2
    exact ⟨none, 0, φ, by rw [liftF, hq.out, if_pos H0.out]; rfl, (Inv.start hφ).callB HB.out, by rw [liftF, hq.out, if_pos H0.out]; exact SlV.empty _⟩
  subst h0
  have H0 := hq
  obtain ⟨o1, ho1⟩ : ∃ o, Hid (outB lev 1 8 = o) := ⟨_, Lib.hid rfl⟩
  cases o1
  case true =>
    go_wp2_with fail
    refine (within_b _ _ _ _ ho1.out).mono ?_
    rintro e w' ⟨rfl, rfl⟩
    go_wp2
    go_ret2
    have e : liftF l cs lev = ([], 1) := by rw [liftF, H0.out, if_neg (by simp), if_pos ho1.out]
    exact ⟨none, 0, φ, by rw [e]; rfl, (Inv.start hφ).callB HB.out, by rw [e]; exact SlV.empty _⟩
  have hlev := outB_false.1 ho1.out
  obtain ⟨m, rfl⟩ : ∃ m : Nat, lev = (m : Int) := ⟨lev.toNat, by omega⟩
  have e : Hid (liftF l cs m = (cs.map (liftX l m), 0)) := Lib.hid (by rw [liftF, H0.out, if_neg (by simp), if_neg (by rw [ho1.out]; simp), Int.toNat_natCast])
  obtain ⟨hn2, ht0, hix⟩ := cdg_ok hnc H0.out
  have HIX := Lib.hid hix
  have HT : Hid (TrOk l n) := Lib.hid (by have := treeF_zero ht0; rwa [hn.out] at this)
  clear hix ht0
  have hF1 := Lib.hid (hφ.below HB.out)
  go_wp2_with fail
  refine (within_b _ _ _ _ ho1.out).mono ?_
  rintro e w' ⟨rfl, rfl⟩
  go_wp2_with fail
  refine (Clone_any hF1.out sc hnc hn2).mono ?_
  rintro e w2 ⟨ao, co, rfl, hS0⟩
  have hSt : Hid (∃ φk, Inv w1.heap.size w1 φ φk w2 ∧ Own w1.heap.size φk w2 32 ao co (lfK l m cs 0)) := Lib.hid ⟨φ, hS0.inv, by simpa [lfK] using hS0.own⟩
  clear hS0
  go_wp2
  go_loopw [26] (fun i wr => ∃ k : Nat, k ≤ nc ∧ i = .int .i64 k ∧ Hid (∃ φk, Inv w1.heap.size w1 φ φk wr ∧ Own w1.heap.size φk wr 32 ao co (lfK l m cs k))) (fun i _ => nc - (intOf i).toNat)
  case atStart => exact ⟨0, Nat.zero_le _, rfl, hSt⟩
  case round =>
    clear hSt
    obtain ⟨k, hk, rfl, hSt⟩ := hrel
    by_cases hlt : k < nc
    · obtain ⟨φk, hi, ho⟩ := hSt.out
      have hkl : k < cs.length := by rw [hnc.out]; exact hlt
      have hxl : Hid ((lfK l m cs k).length = nc) := Lib.hid (by rw [lfK_len _ _ _ _ (by omega), hnc.out])
      obtain ⟨g, rfl, hg1, hg2, d1, d2, d3, _, _⟩ := ho.cdgD hxl hlt
      rw [lfK_at _ _ _ _ hkl] at d1 d2 d3
      have hsetK := Lib.hid (lfK_set l m cs k hkl)
      have hvl := Lib.hid (HIX.out k hlt)
      have hatK := Lib.hid (lfK_at l m cs k hkl)
      obtain ⟨hul, hul0⟩ := upL_length HT.out hvl.out
      obtain ⟨⟨mm, hmm, h8⟩, _⟩ := code_lv HT.out hvl.out
      have hl8 : lvl l (cs.getD k cdg0).2.2 ≤ 8 := by rw [lvl_of (by rw [HT.out.len]; exact hmm)]; exact h8
      have hup := Lib.hid hul
      clear hmm h8 hul
      generalize hX : cs.getD k cdg0 = X at *
      obtain ⟨x1, x2, x3⟩ := X
      replace hX := Lib.hid hX
      dsimp only at d1 d2 d3 hul0 hl8
      replace hvl : Hid ((ix l x3).isSome = true) := hvl
      replace hup : Hid ((upL l x3).length = lvl l x3) := hup
      have I1 := Lib.hid (hi.alloc (.cells #[.int .i64 x1, .int .i64 x2, .int .i64 x3] 32))
      have O1 := Lib.hid (ho.alloc (.cells #[.int .i64 x1, .int .i64 x2, .int .i64 x3] 32))
      have hle := Lib.hid hi.le
      clear hi ho
      generalize hlv : lvl l x3 = lv at *
      replace hlv := Lib.hid hlv
      go_wp2_with fail
      refine (lineage_any I1.out.fz (s.mono hle.out) HT x3 hvl.out).mono ?_
      rintro e w3 ⟨au, cu, φ3, rfl, hi3, su⟩
      have I3 := Lib.hid (I1.out.call hi3)
      have O3 := Lib.hid (O1.out.call hi3)
      rw [hup.out]
      clear hi3 I1 O1
      obtain ⟨g', hga, _, hg3, e1, e2, e3, hfr, hset⟩ := O3.out.cdgD hxl hlt
      cases hga
      obtain ⟨bu, ou, rfl, hcu⟩ := su.intsD hup (k := 0) hul0
      have hfr2 := hfr (k * 3 + 2)
      have HSET := Lib.hid hset
      have HCU := Lib.hid hcu
      clear hset hfr hcu e1 e2
      have hz0 : Hid (liftC l m x3 = (upL l x3).getD (lv - m) 0) := Lib.hid (by unfold liftC; rw [hlv.out])
      by_cases hgt : m < lv
      · have hu1 := (HCU.out (lv - m) (by omega) w3 I3.out.fz).2
        have g1 : (0 : Int) < (lv : Int) - m := by omega
        have g2 : (lv : Int) - m < lv := by omega
        have hto : ((lv : Int) - m).toNat = lv - m := by omega
        generalize (upL l x3).getD (lv - m) 0 = z at *
        go_wp2
        have hfin := Lib.hid (HSET.out z w1 φ I3.out)
        go_roundw
        case rel =>
          refine ⟨k + 1, by omega, by go_num, Lib.hid ⟨φ3, hfin.out.2, ?_⟩⟩
          have h1 := hfin.out.1
          have h2 := hsetK.out
          rw [hatK.out] at h1
          have h3 : ((x1, x2, x3) : Cdg).1 = x1 ∧ liftX l m (x1, x2, x3) = (x1, x2, z) := ⟨rfl, by unfold liftX; rw [hz0.out]⟩
          rw [h3.2] at h2
          rw [← h2]
          exact h1
        case measure => simp [intOf]; omega
      · have hu1 : w3.cell? ⟨bu, ou, none⟩ = some (.int .i64 ((upL l x3).getD 0 0)) := (HCU.out 0 (by omega) w3 I3.out.fz).2
        have g1 : (lv : Int) - m ≤ 0 := by omega
        rw [show lv - m = 0 by omega] at hz0
        generalize (upL l x3).getD 0 0 = z at *
        go_wp2
        have hfin := Lib.hid (HSET.out z w1 φ I3.out)
        go_roundw
        case rel =>
          refine ⟨k + 1, by omega, by go_num, Lib.hid ⟨φ3, hfin.out.2, ?_⟩⟩
          have h1 := hfin.out.1
          have h2 := hsetK.out
          rw [hatK.out] at h1
          have h3 : ((x1, x2, x3) : Cdg).1 = x1 ∧ liftX l m (x1, x2, x3) = (x1, x2, z) := ⟨rfl, by unfold liftX; rw [hz0.out]⟩
          rw [h3.2] at h2
          rw [← h2]
          exact h1
        case measure => simp [intOf]; omega
    · obtain rfl : k = nc := by omega
      obtain ⟨φk, hi, ho⟩ := hSt.out
      have hk2 : lfK l m cs k = cs.map (liftX l m) := by unfold lfK; rw [← hnc.out]; simp
      rw [hk2] at ho
      obtain ⟨φ', hle, hi, hs, _⟩ := ho.release hi
      have HI := Lib.hid hi
      clear hi ho hle hk2 hSt
      go_wp2
      go_ret2
      exact ⟨ao, co, φ', by rw [e.out]; simp [hnc.out], ((Inv.start hφ).callB HB.out).call HI.out, by rw [e.out]; exact hs⟩
end Go.Proofs.Ythnmglckhfajeaa
