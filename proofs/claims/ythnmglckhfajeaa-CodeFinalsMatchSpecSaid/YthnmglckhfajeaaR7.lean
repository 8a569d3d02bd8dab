/- The walk of the reference's Recode. Conditions: none beyond what the claim form gives. -/
import Derived.Test.YthnmglckhfajeaaR6
import Derived.Deep.RegionHeld3
namespace Go.Proofs.Ythnmglckhfajeaa
open Go.RowKit
set_option linter.unusedVariables false

theorem SlPost2.err' {α β : Type} [Rep α] [Rep β] {r : List α × List β × Int} {φ : Phi} {w w' : World} {q : Int} (hr : r = ([], [], q)) (hφ : Fz φ w) (hb : Below w.heap.size w w') : SlPost2 r φ w (.returned (.tuple #[.slice none 0 0, .slice none 0 0, .int .i64 q])) w' := SlPost2.err hr hφ hb
/-- find, with what a region holds. -/
theorem find_S {wx : World} {a : Option Addr} {c n : Nat} {l : List Nod} {φ : Phi} (hφ : Fz φ wx) (s : SlV φ a c l) (hok : Hid (FrOk l n)) (x : Int) {i : Nat} (hi : fdI l x = (i : Int)) {p1 p2 p3 : Addr} {v1 v2 v3 : Value} (h1 : wx.cell? p1 = some v1) (h2 : wx.cell? p2 = some v2) (h3 : wx.cell? p3 = some v3) (W : World) (hW : Hid (Below wx.heap.size wx W)) :
    Calls Try.prog 38 #[.slice a n c, .int .i64 x] W fun e w' => e = .returned (.int .i64 (i : Int)) ∧ w'.cell? p1 = some v1 ∧ w'.cell? p2 = some v2 ∧ w'.cell? p3 = some v3 ∧ Hid (Below wx.heap.size wx w') :=
  (find_any (hφ.below hW.out) s hok x).mono fun e w' ⟨he, hb⟩ => by
    have hb' := hW.out.trans (hb.mono hW.out.size)
    exact ⟨by rw [he, hi], (hb'.cell (World.block_lt_of_cell? wx p1 h1)).trans h1, (hb'.cell (World.block_lt_of_cell? wx p2 h2)).trans h2, (hb'.cell (World.block_lt_of_cell? wx p3 h3)).trans h3, Lib.hid hb'⟩
set_option maxRecDepth 100000 in
set_option maxHeartbeats 4000000 in
theorem RRecode_any {w : World} {a : Option Addr} {c n : Nat} {l : List Nod} {φ : Phi} (hφ : Fz φ w) (s : SlV φ a c l) (hn : Hid (l.length = n)) (hm : n ≤ 9223372036854775807) {a' : Option Addr} {c' n' : Nat} {l2 : List Nod} (s' : SlV φ a' c' l2) (hn' : Hid (l2.length = n')) (hm' : n' ≤ 9223372036854775807)
    {am : Option Addr} {cm nm : Nat} {ms : List Mov} (sm : SlV φ am cm ms) (hnm : Hid (ms.length = nm)) (hmm : nm ≤ 9223372036854775807) {ac : Option Addr} {cc nc : Nat} {cs : List Cdg} (sc : SlV φ ac cc cs) (hnc : Hid (cs.length = nc)) (hmc : nc ≤ 9223372036854775807) :
    Calls Try.prog 18 #[.slice a n c, .slice a' n' c', .slice am nm cm, .slice ac nc cc] w (SlPost2 (recF l l2 ms cs) φ w) := by
  go_enter Try.func18, Try.ntmps18
  go_wp2_with fail
  refine (CheckFrame_any n a c l w φ hφ s hn hm).mono ?_
  rintro e w1 ⟨rfl, hb⟩
  obtain ⟨q, hq⟩ : ∃ q, Hid (treeF l = q) := ⟨_, Lib.hid rfl⟩
  rw [hq.out]
  have HB1 := Lib.hid hb
  clear hb
  by_cases h0 : q = 0
  case neg =>
    have hg : ((q : Int) != 0) = true := by simp [h0]
    have H0 := Lib.hid h0
    clear h0
    go_wp2
    refine bodyPost_ret (v := .tuple #[.slice none 0 0, .slice none 0 0, .int .i64 q]) (by simp [results, Try.results18, go_sem]) rfl (SlPost2.err ?_ hφ HB1.out)
    rw [recF, hq.out, if_pos H0.out]
  subst h0
  have H1 := hq
  have HO : Hid (TrOk l n) := Lib.hid (by have := treeF_zero H1.out; rwa [hn.out] at this)
  go_wp2_with fail
  refine (CheckFrame_any n' a' c' l2 w1 φ (hφ.below HB1.out) s' hn' hm').mono ?_
  rintro e w2 ⟨rfl, hb⟩
  obtain ⟨q, hq⟩ : ∃ q, Hid (treeF l2 = q) := ⟨_, Lib.hid rfl⟩
  rw [hq.out]
  have HB2 := Lib.hid (HB1.out.trans (hb.mono HB1.out.size))
  clear hb HB1
  by_cases h0 : q = 0
  case neg =>
    have hg : ((q : Int) != 0) = true := by simp [h0]
    have H0 := Lib.hid h0
    clear h0
    go_wp2
    refine bodyPost_ret (v := .tuple #[.slice none 0 0, .slice none 0 0, .int .i64 q]) (by simp [results, Try.results18, go_sem]) rfl (SlPost2.err ?_ hφ HB2.out)
    rw [recF, H1.out, if_neg (by simp), hq.out, if_pos H0.out]
  subst h0
  have H2 := hq
  have HO' : Hid (TrOk l2 n') := Lib.hid (by have := treeF_zero H2.out; rwa [hn'.out] at this)
  have HFR : Hid (FrOk l n) := Lib.hid HO.out.toFrOk
  have HFR' : Hid (FrOk l2 n') := Lib.hid HO'.out.toFrOk
  go_wp2
  go_loopw [37] (fun i wr => ∃ k : Nat, k ≤ nm ∧ i = .int .i64 k ∧ Hid (∀ i, i < k → mvBad l l2 ms i = 0) ∧ Below w.heap.size w wr) (fun i _ => nm - (intOf i).toNat)
  case atStart => exact ⟨0, Nat.zero_le _, rfl, none_yet _, HB2.out⟩
  case round =>
    clear HB2
    obtain ⟨k, hk, rfl, hok, hbel⟩ := hrel
    by_cases hlt : k < nm
    · obtain ⟨b, off, rfl, f⟩ := sm.movD hnm hlt
      have hf := hφ.below hbel
      obtain ⟨hb, c1, c2⟩ := f k hlt wr hf
      have hbad : Hid (mvBad l l2 ms k = _) := Lib.hid (mvBad.eq_1 l l2 ms k)
      have HP : Hid (0 < k → ∀ W, Fz φ W → W.cell? ⟨b, off + (k - 1) * 2, none⟩ = some (.int .i64 (ms.getD (k - 1) mov0).1)) := Lib.hid (fun h W hW => (f (k - 1) (by omega) W hW).2.1)
      clear f
      generalize (ms.getD k mov0).1 = x1 at *
      generalize (ms.getD k mov0).2 = x2 at *
      generalize (ms.getD (k - 1) mov0).1 = y1 at *
      have HBX := Lib.hid (hbel.alloc hbel.size (.cells #[.int .i64 x1, .int .i64 x2] 85))
      obtain ⟨q1, hq1⟩ : ∃ o, Hid (ix l x1 = o) := ⟨_, Lib.hid rfl⟩
      obtain ⟨q2, hq2⟩ : ∃ o, Hid (ix l2 x2 = o) := ⟨_, Lib.hid rfl⟩
      cases q1 with
      | none =>
        go_wp2_with fail
        refine (find_any (hφ.below HBX.out) s HFR x1).mono ?_
        rintro e w3 ⟨rfl, hb1⟩
        have HB3 := Lib.hid (HBX.out.trans (hb1.mono HBX.out.size))
        have b0 : w3.cell? ⟨wr.heap.size, 0, none⟩ = some (.int .i64 x1) := (hb1.cell (p := ⟨wr.heap.size, 0, none⟩) (by simp)).trans (box_at 0)
        have b1 : w3.cell? ⟨wr.heap.size, 1, none⟩ = some (.int .i64 x2) := (hb1.cell (p := ⟨wr.heap.size, 1, none⟩) (by simp)).trans (box_at 1)
        have hl3 : wr.heap.size < w3.heap.size := by have := hb1.size; simp at this; omega
        clear hb1
        rw [fdI_none hq1.out]
        go_wp2
        have e : Hid (mvsF l l2 ms = 5) := Lib.hid (mvsF_at hnm hlt hok (by rw [hbad.out, if_pos (ix_none.2 hq1.out)]) (by decide))
        refine bodyPost_ret (v := .tuple #[.slice none 0 0, .slice none 0 0, .int .i64 5]) (by simp [results, Try.results18, go_sem]) rfl (SlPost2.err ?_ hφ HB3.out)
        rw [recF, H1.out, if_neg (by simp), H2.out, if_neg (by simp), e.out, if_pos (by simp)]
      | some i1 =>
        have hi0 : decide ((i1 : Int) < 0) = false := decide_eq_false (by omega)
        have e1 : Hid (¬ (ix l x1).isSome = false) := Lib.hid (by rw [hq1.out]; simp)
        by_cases hx0 : x2 = 0
        · have hg : ((x2 : Int) != 0) = false := by simp [hx0]
          have e2 : Hid (¬ (x2 ≠ 0 ∧ (ix l2 x2).isSome = false)) := Lib.hid (fun h => h.1 hx0)
          clear hx0
          go_wp2_with fail
          refine (find_any (hφ.below HBX.out) s HFR x1).mono ?_
          rintro e w3 ⟨rfl, hb1⟩
          have HB3 := Lib.hid (HBX.out.trans (hb1.mono HBX.out.size))
          have b0 : w3.cell? ⟨wr.heap.size, 0, none⟩ = some (.int .i64 x1) := (hb1.cell (p := ⟨wr.heap.size, 0, none⟩) (by simp)).trans (box_at 0)
          have b1 : w3.cell? ⟨wr.heap.size, 1, none⟩ = some (.int .i64 x2) := (hb1.cell (p := ⟨wr.heap.size, 1, none⟩) (by simp)).trans (box_at 1)
          have hl3 : wr.heap.size < w3.heap.size := by have := hb1.size; simp at this; omega
          clear hb1
          rw [fdI_some hq1.out]
          go_wp2
          by_cases h0 : 0 < k
          · have hpp := HP.out h0 w3 (hφ.below HB3.out)
            have h3i : decide ((0 : Int) < k) = true := decide_eq_true (by omega)
            have hix : 0 ≤ (k : Int) - 1 := by omega
            have hix2 : (k : Int) - 1 < nm := by omega
            have hw1 : IntKind.i64.wrap ((k : Int) - 1) = k - 1 := IntWalk.i64_in _ (by omega)
            have hto : ((k : Int) - 1).toNat = k - 1 := by omega
            by_cases h1 : x1 ≤ y1
            · have h1b : decide (x1 ≤ y1) = true := decide_eq_true h1
              have e : Hid (mvsF l l2 ms = 7) := Lib.hid (mvsF_at hnm hlt hok (by rw [hbad.out, if_neg e1.out, if_neg e2.out, if_pos ⟨h0, h1⟩]) (by decide))
              go_quiet (fail)
              clear hw1 hto
              go_wp2
              refine bodyPost_ret (v := .tuple #[.slice none 0 0, .slice none 0 0, .int .i64 7]) (by simp [results, Try.results18, go_sem]) rfl (SlPost2.err ?_ hφ (bdrewN HB3.out _))
              rw [recF, H1.out, if_neg (by simp), H2.out, if_neg (by simp), e.out, if_pos (by simp)]
            · have h1b : decide (x1 ≤ y1) = false := decide_eq_false h1
              have e : Hid (mvBad l l2 ms k = 0) := Lib.hid (by rw [hbad.out, if_neg e1.out, if_neg e2.out, if_neg (fun h => h1 h.2)])
              go_quiet (fail)
              clear hw1 hto
              go_wp2
              go_roundw
              case rel => exact ⟨k + 1, by omega, by go_num, next_ok hok e.out, bdrewN HB3.out _⟩
              case measure => simp [intOf]; omega
          · have h3i : decide ((0 : Int) < k) = false := decide_eq_false (by omega)
            have e : Hid (mvBad l l2 ms k = 0) := Lib.hid (by rw [hbad.out, if_neg e1.out, if_neg e2.out, if_neg (fun h => h0 h.1)])
            go_quiet (fail)
            go_wp2
            go_roundw
            case rel => exact ⟨k + 1, by omega, by go_num, next_ok hok e.out, bdrewN HB3.out _⟩
            case measure => simp [intOf]; omega
        · have hg : ((x2 : Int) != 0) = true := by simp [hx0]
          have HX := Lib.hid hx0
          clear hx0
          cases q2 with
          | none =>
            go_wp2_with fail
            refine (find_any (hφ.below HBX.out) s HFR x1).mono ?_
            rintro e w3 ⟨rfl, hb1⟩
            have HB3 := Lib.hid (HBX.out.trans (hb1.mono HBX.out.size))
            have b0 : w3.cell? ⟨wr.heap.size, 0, none⟩ = some (.int .i64 x1) := (hb1.cell (p := ⟨wr.heap.size, 0, none⟩) (by simp)).trans (box_at 0)
            have b1 : w3.cell? ⟨wr.heap.size, 1, none⟩ = some (.int .i64 x2) := (hb1.cell (p := ⟨wr.heap.size, 1, none⟩) (by simp)).trans (box_at 1)
            have hl3 : wr.heap.size < w3.heap.size := by have := hb1.size; simp at this; omega
            clear hb1
            rw [fdI_some hq1.out]
            go_wp2_with fail
            refine (find_any (hφ.below HB3.out) s' HFR' x2).mono ?_
            rintro e w4 ⟨rfl, hb1⟩
            have HB4 := Lib.hid (HB3.out.trans (hb1.mono HB3.out.size))
            have b0' : w4.cell? ⟨wr.heap.size, 0, none⟩ = some (.int .i64 x1) := (hb1.cell (p := ⟨wr.heap.size, 0, none⟩) hl3).trans b0
            clear hb1 b0 b1
            rw [fdI_none hq2.out]
            go_wp2
            have e : Hid (mvsF l l2 ms = 5) := Lib.hid (mvsF_at hnm hlt hok (by rw [hbad.out, if_neg e1.out, if_pos ⟨HX.out, ix_none.2 hq2.out⟩]) (by decide))
            refine bodyPost_ret (v := .tuple #[.slice none 0 0, .slice none 0 0, .int .i64 5]) (by simp [results, Try.results18, go_sem]) rfl (SlPost2.err ?_ hφ HB4.out)
            rw [recF, H1.out, if_neg (by simp), H2.out, if_neg (by simp), e.out, if_pos (by simp)]
          | some i2 =>
            have hi02 : decide ((i2 : Int) < 0) = false := decide_eq_false (by omega)
            have e2 : Hid (¬ (x2 ≠ 0 ∧ (ix l2 x2).isSome = false)) := Lib.hid (fun h => by have := h.2; rw [hq2.out] at this; cases this)
            go_wp2_with fail
            refine (find_any (hφ.below HBX.out) s HFR x1).mono ?_
            rintro e w3 ⟨rfl, hb1⟩
            have HB3 := Lib.hid (HBX.out.trans (hb1.mono HBX.out.size))
            have b0 : w3.cell? ⟨wr.heap.size, 0, none⟩ = some (.int .i64 x1) := (hb1.cell (p := ⟨wr.heap.size, 0, none⟩) (by simp)).trans (box_at 0)
            have b1 : w3.cell? ⟨wr.heap.size, 1, none⟩ = some (.int .i64 x2) := (hb1.cell (p := ⟨wr.heap.size, 1, none⟩) (by simp)).trans (box_at 1)
            have hl3 : wr.heap.size < w3.heap.size := by have := hb1.size; simp at this; omega
            clear hb1
            rw [fdI_some hq1.out]
            go_wp2_with fail
            refine (find_any (hφ.below HB3.out) s' HFR' x2).mono ?_
            rintro e w4 ⟨rfl, hb1⟩
            have HB4 := Lib.hid (HB3.out.trans (hb1.mono HB3.out.size))
            have b0' : w4.cell? ⟨wr.heap.size, 0, none⟩ = some (.int .i64 x1) := (hb1.cell (p := ⟨wr.heap.size, 0, none⟩) hl3).trans b0
            clear hb1 b0 b1
            rw [fdI_some hq2.out]
            go_wp2
            by_cases h0 : 0 < k
            · have hpp := HP.out h0 w4 (hφ.below HB4.out)
              have h3i : decide ((0 : Int) < k) = true := decide_eq_true (by omega)
              have hix : 0 ≤ (k : Int) - 1 := by omega
              have hix2 : (k : Int) - 1 < nm := by omega
              have hw1 : IntKind.i64.wrap ((k : Int) - 1) = k - 1 := IntWalk.i64_in _ (by omega)
              have hto : ((k : Int) - 1).toNat = k - 1 := by omega
              by_cases h1 : x1 ≤ y1
              · have h1b : decide (x1 ≤ y1) = true := decide_eq_true h1
                have e : Hid (mvsF l l2 ms = 7) := Lib.hid (mvsF_at hnm hlt hok (by rw [hbad.out, if_neg e1.out, if_neg e2.out, if_pos ⟨h0, h1⟩]) (by decide))
                go_quiet (fail)
                clear hw1 hto
                go_wp2
                refine bodyPost_ret (v := .tuple #[.slice none 0 0, .slice none 0 0, .int .i64 7]) (by simp [results, Try.results18, go_sem]) rfl (SlPost2.err ?_ hφ (bdrewN HB4.out _))
                rw [recF, H1.out, if_neg (by simp), H2.out, if_neg (by simp), e.out, if_pos (by simp)]
              · have h1b : decide (x1 ≤ y1) = false := decide_eq_false h1
                have e : Hid (mvBad l l2 ms k = 0) := Lib.hid (by rw [hbad.out, if_neg e1.out, if_neg e2.out, if_neg (fun h => h1 h.2)])
                go_quiet (fail)
                clear hw1 hto
                go_wp2
                go_roundw
                case rel => exact ⟨k + 1, by omega, by go_num, next_ok hok e.out, bdrewN HB4.out _⟩
                case measure => simp [intOf]; omega
            · have h3i : decide ((0 : Int) < k) = false := decide_eq_false (by omega)
              have e : Hid (mvBad l l2 ms k = 0) := Lib.hid (by rw [hbad.out, if_neg e1.out, if_neg e2.out, if_neg (fun h => h0 h.1)])
              go_quiet (fail)
              go_wp2
              go_roundw
              case rel => exact ⟨k + 1, by omega, by go_num, next_ok hok e.out, bdrewN HB4.out _⟩
              case measure => simp [intOf]; omega
    · obtain rfl : k = nm := by omega
      rename Nat => nm
      clear hlt hk
      have H3 : Hid (mvsF l l2 ms = 0) := Lib.hid (mvsF_ok hnm hok)
      have HB2 := Lib.hid hbel
      clear hok hbel
      go_wp2_with fail
      refine (RCheckCodings_any (hφ.below HB2.out) s hn hm sc hnc hmc).mono ?_
      rintro e w4 ⟨rfl, hb⟩
      have hfc : frcF l cs = cdgF l cs := by rw [frcF, H1.out, if_neg (by simp)]
      rw [hfc]
      obtain ⟨q, hq⟩ : ∃ q, Hid (cdgF l cs = q) := ⟨_, Lib.hid rfl⟩
      rw [hq.out]
      have HB4 := Lib.hid (HB2.out.trans (hb.mono HB2.out.size))
      clear hb HB2 hfc
      by_cases h0 : q = 0
      case neg =>
        have hg : ((q : Int) != 0) = true := by simp [h0]
        have H0 := Lib.hid h0
        clear h0
        go_wp2
        refine bodyPost_ret (v := .tuple #[.slice none 0 0, .slice none 0 0, .int .i64 q]) (by simp [results, Try.results18, go_sem]) rfl (SlPost2.err ?_ hφ HB4.out)
        rw [recF, H1.out, if_neg (by simp), H2.out, if_neg (by simp), H3.out, if_neg (by simp), hq.out, if_pos H0.out]
      subst h0
      have HR : Hid (recF l l2 ms cs = (recD l l2 (mvK ms nm) cs, recL l l2 (mvK ms nm) cs, 0)) := Lib.hid (by rw [recF, H1.out, if_neg (by simp), H2.out, if_neg (by simp), H3.out, if_neg (by simp), hq.out, if_neg (by simp), hnm.out])
      have hfr : frcF l cs = 0 := by rw [frcF, H1.out, if_neg (by simp), hq.out]
      obtain ⟨hn2, _, hix⟩ := cdg_ok hnc hfr
      have HIX := Lib.hid hix
      clear hix hfr hq
      have hF4 := Lib.hid (hφ.below HB4.out)
      have hSt : Hid (Ow2 w4 φ 32 32 none 0 (recD l l2 (mvK ms nm) (cs.take 0)) none 0 (recL l l2 (mvK ms nm) (cs.take 0)) w4) := Lib.hid ⟨Inv.start hF4.out, Own.nil _ _ _ _, Own.nil _ _ _ _, fun _ _ h => by cases h⟩
      go_wp2
      go_loopw [16, 17, 83] (fun o1 o2 i wr => ∃ (k : Nat) (a1 a2 : Option Addr) (c1 c2 : Nat) (xs ys : List Cdg), k ≤ nc ∧ i = .int .i64 k ∧ o1 = .slice a1 xs.length c1 ∧ o2 = .slice a2 ys.length c2 ∧ Hid (recD l l2 (mvK ms nm) (cs.take k) = xs) ∧ Hid (recL l l2 (mvK ms nm) (cs.take k) = ys) ∧ Hid (Ow2 w4 φ 32 32 a1 c1 xs a2 c2 ys wr)) (fun _ _ i _ => nc - (intOf i).toNat)
      case atStart => exact ⟨0, none, none, 0, 0, [], [], Nat.zero_le _, rfl, rfl, rfl, Lib.hid rfl, Lib.hid rfl, hSt⟩
      case round =>
        clear hSt
        obtain ⟨k, a1, a2, c1, c2, xs, ys, hk, rfl, rfl, rfl, hxs, hys, hSt⟩ := hrel
        by_cases hlt : k < nc
        · obtain ⟨b, off, rfl, f⟩ := sc.cdgD hnc hlt
          obtain ⟨hb, d1, d2, d3⟩ := f k hlt wr hSt.out.inv.fz
          have hix := Lib.hid (HIX.out k hlt)
          have hcn := Lib.hid (code_lv HO.out hix.out).2
          have hxl : xs.length ≤ 20000 := by rw [← hxs.out]; have := (rec_len l l2 (mvK ms nm) (cs.take k)).1; rw [List.length_take] at this; omega
          have hyl : ys.length ≤ 20000 := by rw [← hys.out]; have := (rec_len l l2 (mvK ms nm) (cs.take k)).2; rw [List.length_take] at this; omega
          have hsn : Hid (_ ∧ _) := Lib.hid (rec_snoc l l2 (mvK ms nm) (cs.take k) (cs.getD k cdg0))
          rw [← take_snocD cdg0 cs k nc hnc.out hlt, hxs.out, hys.out] at hsn
          clear f
          generalize hgx : (cs.getD k cdg0) = X at *
          obtain ⟨x1, x2, x3⟩ := X
          replace hgx := Lib.hid hgx
          dsimp only at d1 d2 d3
          replace hcn : Hid (x3 ≠ 0) := hcn
          replace hix : Hid ((ix l x3).isSome = true) := hix
          have hbB : w4.heap.size ≤ wr.heap.size := hSt.out.inv.size
          have ha1 : Hid (∀ x, a1 = some x → x.block < wr.heap.size) := Lib.hid (fun x hx => (hSt.out.o1.lt x hx).2)
          have ha2 : Hid (∀ x, a2 = some x → x.block < wr.heap.size) := Lib.hid (fun x hx => (hSt.out.o2.lt x hx).2)
          have hφn : Hid (φ wr.heap.size = none) := Lib.hid (by
            cases h : φ wr.heap.size with
            | none => rfl
            | some o => have := hSt.out.inv.fz.mlt h; omega)
          have hB0 := Lib.hid (Blk.new wr #[.int .i64 x1, .int .i64 x2, .int .i64 x3] 32)
          have hSx := Lib.hid (hSt.out.alloc (.cells #[.int .i64 x1, .int .i64 x2, .int .i64 x3] 32))
          clear hSt
          go_wp2
          clear d1 d2 d3 hb
          generalize wr.alloc (.cells #[.int .i64 x1, .int .i64 x2, .int .i64 x3] 32) = wo at *
          generalize wr.heap.size = bx at *
          go_loopw [20, 21, 89] (fun to mv i wi => ∃ j : Nat, j ≤ nm ∧ i = .int .i64 j ∧ to = .int .i64 ((mvK ms j x3).getD 0) ∧ mv = .bool (mvK ms j x3).isSome ∧ Hid (Ow2 w4 φ 32 32 a1 c1 xs a2 c2 ys wi) ∧ Hid (Blk wi bx #[.int .i64 x1, .int .i64 x2, .int .i64 x3] 32)) (fun _ _ i _ => nm - (intOf i).toNat)
          case atStart => exact ⟨0, Nat.zero_le _, rfl, rfl, rfl, hSx, hB0⟩
          case round =>
            clear hSx hB0
            rename World => wi
            obtain ⟨j, hj, rfl, rfl, rfl, hSi, hBi⟩ := hrel
            by_cases hjl : j < nm
            · obtain ⟨bm, offm, rfl, fm⟩ := sm.movD hnm hjl
              obtain ⟨hbm, m1, m2⟩ := fm j hjl wi hSi.out.inv.fz
              have hmk : Hid (mvK ms (j + 1) x3 = if x3 = (ms.getD j mov0).1 then some (ms.getD j mov0).2 else mvK ms j x3) := Lib.hid rfl
              clear fm
              generalize (ms.getD j mov0).1 = y1 at *
              generalize (ms.getD j mov0).2 = y2 at *
              have hSi2 := Lib.hid (hSi.out.alloc (.cells #[.int .i64 y1, .int .i64 y2] 85))
              have hBi2 := Lib.hid (hBi.out.alloc (.cells #[.int .i64 y1, .int .i64 y2] 85))
              have hz : (wi.alloc (.cells #[.int .i64 y1, .int .i64 y2] 85)).cell? ⟨bx, 2, none⟩ = some (.int .i64 x3) := hBi2.out.cell 2
              obtain ⟨to, hto⟩ : ∃ t, Hid ((mvK ms j x3).getD 0 = t) := ⟨_, Lib.hid rfl⟩
              obtain ⟨mv, hmv⟩ : ∃ t, Hid ((mvK ms j x3).isSome = t) := ⟨_, Lib.hid rfl⟩
              rw [hto.out, hmv.out]
              by_cases he : y1 = x3
              · have hg : ((y1 : Int) == x3) = true := by simp [he]
                have e : Hid (mvK ms (j + 1) x3 = some y2) := Lib.hid (by rw [hmk.out, if_pos he.symm])
                clear he
                go_wp2
                go_roundw
                case rel => exact ⟨j + 1, by omega, by go_num, by rw [e.out]; rfl, by rw [e.out]; rfl, hSi2, hBi2⟩
                case measure => simp [intOf]; omega
              · have hg : ((y1 : Int) == x3) = false := by simp [he]
                have e : Hid (mvK ms (j + 1) x3 = mvK ms j x3) := Lib.hid (by rw [hmk.out, if_neg (fun h => he h.symm)])
                clear he
                go_wp2
                go_roundw
                case rel => exact ⟨j + 1, by omega, by go_num, by rw [e.out, hto.out], by rw [e.out, hmv.out], hSi2, hBi2⟩
                case measure => simp [intOf]; omega
            · obtain rfl : j = nm := by omega
              rename Nat => nm
              clear hj hjl
              obtain ⟨v, hv⟩ : ∃ v, Hid (mvK ms nm x3 = v) := ⟨_, Lib.hid rfl⟩
              obtain ⟨qx, hqx⟩ : ∃ v, Hid (ix l2 x3 = v) := ⟨_, Lib.hid rfl⟩
              rw [hv.out]
              have bi2 : wi.cell? ⟨bx, 2, none⟩ = some (.int .i64 x3) := hBi.out.cell 2
              go_wp2_with fail
              clear bi2
              refine (find_any hSi.out.inv.fz s' HFR' x3).mono ?_
              rintro e wx ⟨rfl, hb⟩
              have hSx := Lib.hid (hSi.out.callB hb)
              have hBx := Lib.hid (hBi.out.callB hb)
              clear hSi hBi hb
              have b0 : wx.cell? ⟨bx, 0, none⟩ = some (.int .i64 x1) := hBx.out.cell 0
              have b1 : wx.cell? ⟨bx, 1, none⟩ = some (.int .i64 x2) := hBx.out.cell 1
              have b2 : wx.cell? ⟨bx, 2, none⟩ = some (.int .i64 x3) := hBx.out.cell 2
              cases v with
              | some t =>
                have hcv : Hid (recC l l2 (mvK ms nm) x3 = t) := Lib.hid (by unfold recC; rw [hv.out])
                simp only [Option.getD_some, Option.isSome_some]
                go_wp2
                go_quiet (fail)
                have hSw := Lib.hid (hSx.out.drewN nq)
                have hBw : Hid (Blk (wx.drewN nq) bx #[.int .i64 x1, .int .i64 x2, .int .i64 x3] 32) := Lib.hid hBx.out
                clear b0 b1 b2
                generalize wx.drewN nq = W at *
                have b0 : W.cell? ⟨bx, 0, none⟩ = some (.int .i64 x1) := hBw.out.cell 0
                have b1 : W.cell? ⟨bx, 1, none⟩ = some (.int .i64 x2) := hBw.out.cell 1
                have b2 : W.cell? ⟨bx, 2, none⟩ = some (.int .i64 x3) := hBw.out.cell 2
                have f2 := hBw.out.frz 2
                by_cases ht0 : t = 0
                · subst ht0
                  have hin := hSw.out.inv
                  have hon := hSw.out.o2
                  go_wp2_with (at_builtin; refine wpList_app1F (α := Cdg) rfl _ _ 27 rfl slC hin a2 c2 _ hon _ _ (x1, x2, x3) ⟨[.int .i64 x1], [.int .i64 x2, .int .i64 x3], rfl, rfl, [.int .i64 x2], [.int .i64 x3], rfl, rfl, rfl⟩ rfl 1 rfl (by omega) ?_; intro a3 c3 w5 hi5 ho5 hg5 hf5)
                  have hS5 := Lib.hid ((hSw.out.alloc _).swap.step1 hi5 ho5 hg5 hf5).swap
                  clear hi5 ho5 hg5 hf5 hin hon
                  go_roundw
                  case rel => exact ⟨k + 1, a1, a3, c1, c3, xs, ys ++ [(x1, x2, x3)], by omega, by go_num, rfl, by simp, Lib.hid (by rw [hsn.out.1, if_pos (by rw [hcv.out]; )]), Lib.hid (by rw [hsn.out.2, if_pos (by rw [hcv.out]; )]), hS5⟩
                  case measure => simp [intOf]; omega
                · have hg : ((t : Int) == 0) = false := by simp [ht0]
                  have HT0 := Lib.hid ht0
                  clear ht0
                  have hS2 := Lib.hid (hSw.out.set (off := 2) hbB hφn.out (fun x hx => by have := (ha1.out x hx); omega) (fun x hx => by have := (ha2.out x hx); omega) (.int .i64 t))
                  have HSZ : Hid ((W.setCell ⟨bx, 2, none⟩ (.int .i64 t)).heap.size = W.heap.size) := Lib.hid (by simp [World.setCell])
                  have hin := hS2.out.inv
                  have hon := hS2.out.o1
                  go_wp2_with (at_builtin; refine wpList_app1F (α := Cdg) rfl _ _ 27 rfl slC hin a1 c1 _ hon _ _ (x1, x2, t) ⟨[.int .i64 x1], [.int .i64 x2, .int .i64 t], rfl, rfl, [.int .i64 x2], [.int .i64 t], rfl, rfl, rfl⟩ rfl 1 (by rw [HSZ.out]; rfl) (by omega) ?_; intro a3 c3 w5 hi5 ho5 hg5 hf5)
                  have hS5 := Lib.hid ((hS2.out.alloc _).step1 hi5 ho5 hg5 hf5)
                  clear hi5 ho5 hg5 hf5 hin hon
                  go_roundw
                  case rel => exact ⟨k + 1, a3, a2, c3, c2, xs ++ [(x1, x2, t)], ys, by omega, by go_num, by simp, rfl, Lib.hid (by rw [hsn.out.1, if_neg (by rw [hcv.out]; exact HT0.out), hcv.out]), Lib.hid (by rw [hsn.out.2, if_neg (by rw [hcv.out]; exact HT0.out)]), hS5⟩
                  case measure => simp [intOf]; omega
              | none =>
                simp only [Option.getD_none, Option.isSome_none]
                cases qx with
                | none =>
                  have hcv : Hid (recC l l2 (mvK ms nm) x3 = 0) := Lib.hid (by unfold recC; rw [hv.out]; dsimp only; rw [hqx.out]; simp)
                  rw [fdI_none hqx.out]
                  go_wp2
                  go_quiet (fail)
                  have hSw := Lib.hid (hSx.out.drewN nq)
                  have hBw : Hid (Blk (wx.drewN nq) bx #[.int .i64 x1, .int .i64 x2, .int .i64 x3] 32) := Lib.hid hBx.out
                  clear b0 b1 b2
                  generalize wx.drewN nq = W at *
                  have b0 : W.cell? ⟨bx, 0, none⟩ = some (.int .i64 x1) := hBw.out.cell 0
                  have b1 : W.cell? ⟨bx, 1, none⟩ = some (.int .i64 x2) := hBw.out.cell 1
                  have b2 : W.cell? ⟨bx, 2, none⟩ = some (.int .i64 x3) := hBw.out.cell 2
                  have f2 := hBw.out.frz 2
                  have hin := hSw.out.inv
                  have hon := hSw.out.o2
                  go_wp2_with (at_builtin; refine wpList_app1F (α := Cdg) rfl _ _ 27 rfl slC hin a2 c2 _ hon _ _ (x1, x2, x3) ⟨[.int .i64 x1], [.int .i64 x2, .int .i64 x3], rfl, rfl, [.int .i64 x2], [.int .i64 x3], rfl, rfl, rfl⟩ rfl 1 rfl (by omega) ?_; intro a3 c3 w5 hi5 ho5 hg5 hf5)
                  have hS5 := Lib.hid ((hSw.out.alloc _).swap.step1 hi5 ho5 hg5 hf5).swap
                  clear hi5 ho5 hg5 hf5 hin hon
                  go_roundw
                  case rel => exact ⟨k + 1, a1, a3, c1, c3, xs, ys ++ [(x1, x2, x3)], by omega, by go_num, rfl, by simp, Lib.hid (by rw [hsn.out.1, if_pos (by rw [hcv.out]; )]), Lib.hid (by rw [hsn.out.2, if_pos (by rw [hcv.out]; )]), hS5⟩
                  case measure => simp [intOf]; omega
                | some i2 =>
                  rw [fdI_some hqx.out]
                  obtain ⟨hi2, hi2e⟩ := HFR'.out.ix_some hqx.out
                  obtain ⟨i1, hi1, hi1e, hi1a, _⟩ := HO.out.up hix.out
                  have hfi1 : Hid (fdI l x3 = (i1 : Int)) := Lib.hid (by rw [← hi1e]; exact fdI_some (HO.out.ix_of hi1))
                  obtain ⟨bb, off1, rfl, f⟩ := s.nodesD hn hi1
                  obtain ⟨bb2, off2, rfl, f'⟩ := s'.nodesD hn' hi2
                  obtain ⟨_, _, _, g4⟩ := f i1 hi1 wx hSx.out.inv.fz
                  obtain ⟨_, _, _, g4'⟩ := f' i2 hi2 wx hSx.out.inv.fz
                  have t1 : Hid (ttl l x3 = (l.getD i1 nod0).2.2) := Lib.hid (by unfold ttl; rw [hi1a])
                  have t2 : Hid (ttl l2 x3 = (l2.getD i2 nod0).2.2) := Lib.hid (by unfold ttl atV; rw [hqx.out]; rfl)
                  generalize (l.getD i1 nod0).2.2 = ti1 at *
                  generalize (l2.getD i2 nod0).2.2 = ti2 at *
                  have z1 : (i1 : Int) < n := by omega
                  have z2 : (i2 : Int) < n' := by omega
                  have z3 : (0 : Int) ≤ (i1 : Int) := by omega
                  have z4 : (0 : Int) ≤ (i2 : Int) := by omega
                  have hge : decide ((i2 : Int) ≥ 0) = true := decide_eq_true (by omega)
                  have hB : Hid (Below wx.heap.size wx wx) := Lib.hid (Below.refl _ _)
                  have hBd : Hid (Below wx.heap.size wx wx.drew) := Lib.hid (Below.refl _ _).drew
                  have HI := Lib.hid (And.intro hi1e (And.intro hi2e hi1a))
                  clear f f' hi1a hi1e hi2e
                  by_cases hte : ti2 = ti1
                  · have hte1 := str_eq_t hte
                    have hcv : Hid (recC l l2 (mvK ms nm) x3 = x3) := Lib.hid (by unfold recC; rw [hv.out]; dsimp only; rw [if_pos (by rw [hqx.out]; rfl), if_pos (by rw [t1.out, t2.out]; exact hte)])
                    have HTE := Lib.hid hte
                    have hg : ((x3 : Int) == 0) = false := by simp [hcn.out]
                    clear hte
                    go_wp2
                    go_region_held3 (fun w' => w'.cell? ⟨bx, 2, none⟩ = some (.int .i64 x3) ∧ w'.cell? ⟨bb, off1 + i1 * 3 + 2, none⟩ = some (.string ti1) ∧ w'.cell? ⟨bb2, off2 + i2 * 3 + 2, none⟩ = some (.string ti2) ∧ Hid (Below wx.heap.size wx w')) (first | exact ⟨b2, g4, g4', hBd⟩ | exact ⟨by assumption, by assumption, by assumption, by assumption⟩) (first | (go_at_call 38; refine (find_S hSx.out.inv.fz s HFR x3 hfi1.out b2 g4 g4' _ (by assumption)).mono ?_; rintro e w' ⟨rfl, y0, y1, y2, y3⟩))
                    rename World => W
                    have hbW : Hid (Below wx.heap.size wx W) := by assumption
                    have hSw := Lib.hid (hSx.out.callB hbW.out)
                    have hBw := Lib.hid (hBx.out.callB hbW.out)
                    clear b0 b1 b2 g4 g4'
                    have b0 : W.cell? ⟨bx, 0, none⟩ = some (.int .i64 x1) := hBw.out.cell 0
                    have b1 : W.cell? ⟨bx, 1, none⟩ = some (.int .i64 x2) := hBw.out.cell 1
                    have b2 : W.cell? ⟨bx, 2, none⟩ = some (.int .i64 x3) := hBw.out.cell 2
                    have f2 := hBw.out.frz 2
                    have hS2 := Lib.hid (hSw.out.set (off := 2) hbB hφn.out (fun x hx => by have := (ha1.out x hx); omega) (fun x hx => by have := (ha2.out x hx); omega) (.int .i64 x3))
                    have HSZ : Hid ((W.setCell ⟨bx, 2, none⟩ (.int .i64 x3)).heap.size = W.heap.size) := Lib.hid (by simp [World.setCell])
                    have hin := hS2.out.inv
                    have hon := hS2.out.o1
                    go_wp2_with (at_builtin; refine wpList_app1F (α := Cdg) rfl _ _ 27 rfl slC hin a1 c1 _ hon _ _ (x1, x2, x3) ⟨[.int .i64 x1], [.int .i64 x2, .int .i64 x3], rfl, rfl, [.int .i64 x2], [.int .i64 x3], rfl, rfl, rfl⟩ rfl 1 (by rw [HSZ.out]; rfl) (by omega) ?_; intro a3 c3 w5 hi5 ho5 hg5 hf5)
                    have hS5 := Lib.hid ((hS2.out.alloc _).step1 hi5 ho5 hg5 hf5)
                    clear hi5 ho5 hg5 hf5 hin hon
                    go_roundw
                    case rel => exact ⟨k + 1, a3, a2, c3, c2, xs ++ [(x1, x2, x3)], ys, by omega, by go_num, by simp, rfl, Lib.hid (by rw [hsn.out.1, if_neg (by rw [hcv.out]; exact hcn.out), hcv.out]), Lib.hid (by rw [hsn.out.2, if_neg (by rw [hcv.out]; exact hcn.out)]), hS5⟩
                    case measure => simp [intOf]; omega
                  · have hte1 := str_eq_f hte
                    have hcv : Hid (recC l l2 (mvK ms nm) x3 = 0) := Lib.hid (by unfold recC; rw [hv.out]; dsimp only; rw [if_pos (by rw [hqx.out]; rfl), if_neg (by rw [t1.out, t2.out]; exact hte)])
                    have HTE := Lib.hid hte
                    clear hte
                    go_wp2
                    go_region_held3 (fun w' => w'.cell? ⟨bx, 2, none⟩ = some (.int .i64 x3) ∧ w'.cell? ⟨bb, off1 + i1 * 3 + 2, none⟩ = some (.string ti1) ∧ w'.cell? ⟨bb2, off2 + i2 * 3 + 2, none⟩ = some (.string ti2) ∧ Hid (Below wx.heap.size wx w')) (first | exact ⟨b2, g4, g4', hBd⟩ | exact ⟨by assumption, by assumption, by assumption, by assumption⟩) (first | (go_at_call 38; refine (find_S hSx.out.inv.fz s HFR x3 hfi1.out b2 g4 g4' _ (by assumption)).mono ?_; rintro e w' ⟨rfl, y0, y1, y2, y3⟩))
                    rename World => W
                    have hbW : Hid (Below wx.heap.size wx W) := by assumption
                    have hSw := Lib.hid (hSx.out.callB hbW.out)
                    have hBw := Lib.hid (hBx.out.callB hbW.out)
                    clear b0 b1 b2 g4 g4'
                    have b0 : W.cell? ⟨bx, 0, none⟩ = some (.int .i64 x1) := hBw.out.cell 0
                    have b1 : W.cell? ⟨bx, 1, none⟩ = some (.int .i64 x2) := hBw.out.cell 1
                    have b2 : W.cell? ⟨bx, 2, none⟩ = some (.int .i64 x3) := hBw.out.cell 2
                    have f2 := hBw.out.frz 2
                    have hin := hSw.out.inv
                    have hon := hSw.out.o2
                    go_wp2_with (at_builtin; refine wpList_app1F (α := Cdg) rfl _ _ 27 rfl slC hin a2 c2 _ hon _ _ (x1, x2, x3) ⟨[.int .i64 x1], [.int .i64 x2, .int .i64 x3], rfl, rfl, [.int .i64 x2], [.int .i64 x3], rfl, rfl, rfl⟩ rfl 1 rfl (by omega) ?_; intro a3 c3 w5 hi5 ho5 hg5 hf5)
                    have hS5 := Lib.hid ((hSw.out.alloc _).swap.step1 hi5 ho5 hg5 hf5).swap
                    clear hi5 ho5 hg5 hf5 hin hon
                    go_roundw
                    case rel => exact ⟨k + 1, a1, a3, c1, c3, xs, ys ++ [(x1, x2, x3)], by omega, by go_num, rfl, by simp, Lib.hid (by rw [hsn.out.1, if_pos (by rw [hcv.out]; )]), Lib.hid (by rw [hsn.out.2, if_pos (by rw [hcv.out]; )]), hS5⟩
                    case measure => simp [intOf]; omega
        · obtain rfl : k = nc := by omega
          go_wp2
          obtain ⟨φ', hle, hi, hs1, hs2⟩ := hSt.out.release
          have ex : cs.take k = cs := by rw [← hnc.out, List.take_length]
          rw [ex] at hxs hys
          refine bodyPost_ret (v := .tuple #[.slice a1 xs.length c1, .slice a2 ys.length c2, .int .i64 0]) (by simp [results, Try.results18, go_sem]) rfl ⟨a1, c1, a2, c2, φ', by rw [HR.out, hxs.out, hys.out], ((Inv.start hφ).callB HB4.out).call hi, by rw [HR.out, hxs.out]; exact hs1, by rw [HR.out, hys.out]; exact hs2⟩
end Go.Proofs.Ythnmglckhfajeaa
