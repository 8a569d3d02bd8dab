/- The walks of the reference's CheckCoder, checkText and Words. Conditions: none beyond what the claim form gives. -/
import Derived.Test.YtapkkplndhbapaaW11
namespace Go.Proofs.Ytapkkplndhbapaa
open Go.RowKit
set_option linter.unusedVariables false
set_option maxRecDepth 100000 in
set_option maxHeartbeats 4000000 in
theorem RCheckCoder_any
  {nn : Nat} {an : Option Addr} {cn : Nat} {l : List Nod} {ns : Nat} {a1 : Option Addr} {c1 : Nat} {stops : List ByteArray} {ne : Nat} {a2 : Option Addr} {c2 : Nat} {ends : List Endg} {nr : Nat} {a3 : Option Addr} {c3 : Nat} {rs : List Rul} {nx : Nat} {a4 : Option Addr} {c4 : Nat} {xs : List Exm} {w : World} {φ : Phi} (hφ : Fz φ w) (sN : SlV φ an cn l) (hnn : Hid (l.length = nn)) (hmn : nn ≤ 9223372036854775807) (sS : SlV φ a1 c1 stops) (hns : Hid (stops.length = ns)) (hms : ns ≤ 9223372036854775807) (sE : SlV φ a2 c2 ends) (hne : Hid (ends.length = ne)) (hme : ne ≤ 9223372036854775807) (sR : SlV φ a3 c3 rs) (hnr : Hid (rs.length = nr)) (hmr : nr ≤ 9223372036854775807) (sX : SlV φ a4 c4 xs) (hnx : Hid (xs.length = nx)) (hmx : nx ≤ 9223372036854775807) (hgS : Hid (∀ x ∈ stops, StrG x)) (hgE : Hid (∀ x ∈ ends, StrG x.1 ∧ StrG x.2)) (hgR : Hid (∀ x ∈ rs, RulG x)) (hgX : Hid (∀ x ∈ xs, StrG x.1 ∧ IsI64 x.2)) {F : Int} (hF : Hid (cdrF l stops ends rs xs = F))
    : Calls Try.prog 7 #[.agg #[.slice an nn cn, .slice a1 ns c1, .slice a2 ne c2, .slice a3 nr c3, .slice a4 nx c4]] w (fun e w' => e = .returned (.int .i64 F) ∧ Below w.heap.size w w') := by
  obtain ⟨φ1, le1, i1, k1⟩ := (Inv.start hφ).frz (.cells #[.slice an nn cn, .slice a1 ns c1, .slice a2 ne c2, .slice a3 nr c3, .slice a4 nx c4] 28)
  have sN1 := sN.mono le1
  have sS1 := sS.mono le1
  have sE1 := sE.mono le1
  have sR1 := sR.mono le1
  have sX1 := sX.mono le1
  go_enter Try.func7, Try.ntmps7
  go_wp2_with fail
  refine (CheckFrame_any nn an cn l _ φ1 i1.fz sN1 hnn hmn).mono ?_
  rintro e w2 ⟨rfl, hb⟩
  have HI := Lib.hid (i1.callB hb)
  have HIb := Lib.hid HI.out.bel
  obtain ⟨q, hq⟩ : ∃ q, Hid (treeF l = q) := ⟨_, Lib.hid rfl⟩
  rw [hq.out]
  by_cases h0 : q = 0
  case neg =>
    have hg : ((q : Int) != 0) = true := by simp [h0]
    have H0 := Lib.hid h0
    clear h0 hb i1
    go_wp2
    go_ret
    exact ⟨ret_int (by rw [← hF.out, cdrF, hq.out, if_pos H0.out]), HIb.out⟩
  subst h0
  have H0 := hq
  have HFR : Hid (FrOk l nn) := Lib.hid (by have := treeF_zero hq.out; rw [hnn.out] at this; exact this.toFrOk)
  obtain ⟨bc, hbc⟩ : ∃ bc, Hid (w.heap.size = bc) := ⟨_, Lib.hid rfl⟩
  have hX : Hid (φ1 bc = some (.cells #[.slice an nn cn, .slice a1 ns c1, .slice a2 ne c2, .slice a3 nr c3, .slice a4 nx c4] 28)) := Lib.hid (by rw [← hbc.out]; exact k1)
  clear hb i1 k1
  rw [hbc.out]
  have q1 : w2.cell? ⟨bc, 1, none⟩ = some (.slice a1 ns c1) := (HI.out.fz.blk hX.out).cell 1
  have q2 : w2.cell? ⟨bc, 2, none⟩ = some (.slice a2 ne c2) := (HI.out.fz.blk hX.out).cell 2
  have q3 : w2.cell? ⟨bc, 3, none⟩ = some (.slice a3 nr c3) := (HI.out.fz.blk hX.out).cell 3
  have q4 : w2.cell? ⟨bc, 4, none⟩ = some (.slice a4 nx c4) := (HI.out.fz.blk hX.out).cell 4
  by_cases z1 : 60 < ns
  · go_wp2
    go_ret
    exact ⟨ret_int (by rw [← hF.out, cdrF, if_neg (by simp [H0.out]), if_pos (by rw [hns.out]; exact .inl z1)]), HIb.out⟩
  by_cases z2 : 40 < ne
  · go_wp2
    go_ret
    exact ⟨ret_int (by rw [← hF.out, cdrF, if_neg (by simp [H0.out]), if_pos (by rw [hne.out]; exact .inr (.inl z2))]), HIb.out⟩
  by_cases z3 : 200 < nr
  · go_wp2
    go_ret
    exact ⟨ret_int (by rw [← hF.out, cdrF, if_neg (by simp [H0.out]), if_pos (by rw [hnr.out]; exact .inr (.inr (.inl z3)))]), HIb.out⟩
  by_cases z4 : 2000 < nx
  · go_wp2
    go_ret
    exact ⟨ret_int (by rw [← hF.out, cdrF, if_neg (by simp [H0.out]), if_pos (by rw [hnx.out]; exact .inr (.inr (.inr z4)))]), HIb.out⟩
  obtain ⟨q, hq⟩ : ∃ q, Hid (risF stops = q) := ⟨_, Lib.hid rfl⟩
  by_cases hq0 : q = 0
  case neg =>
    have hg : ((q : Int) != 0) = true := by simp [hq0]
    have HQ0 := Lib.hid hq0
    clear hq0
    go_wp2_with (go_at_call 15; refine (RcheckWords_any ns a1 c1 stops _ φ1 HI.out.fz sS1 hns hms hgS).mono ?_; rintro e w' ⟨rfl, rfl⟩; rw [hq.out])
    go_ret
    exact ⟨ret_int (by rw [← hF.out, cdrF, if_neg (by simp [H0.out]), if_neg (by rw [hns.out, hne.out, hnr.out, hnx.out]; omega), hq.out, if_pos HQ0.out]), HIb.out⟩
  have hg : ((q : Int) != 0) = false := by simp [hq0]
  have hris : Hid (risF stops = 0) := Lib.hid (by rw [hq.out, hq0])
  clear hq0
  go_wp2_with (go_at_call 15; refine (RcheckWords_any ns a1 c1 stops _ φ1 HI.out.fz sS1 hns hms hgS).mono ?_; rintro e w' ⟨rfl, rfl⟩; rw [hq.out])
  clear q1 q2 q3 q4 hg
  go_loopw [49] (fun i wr => ∃ k : Nat, k ≤ ne ∧ i = .int .i64 k ∧ Hid (∀ i, i < k → endBad ends i = 0) ∧ Hid (Inv w2.heap.size w2 φ1 φ1 wr)) (fun i _ => ne - (intOf i).toNat)
  case atStart => exact ⟨0, Nat.zero_le _, rfl, none_yet _, Lib.hid (Inv.start HI.out.fz)⟩
  case round =>
    obtain ⟨k, hk, rfl, hez, hE⟩ := hrel
    by_cases hlt : k < ne
    · obtain ⟨b, off, rfl, f⟩ := sE1.endD hne hlt
      obtain ⟨hbl, d1, d2⟩ := f k hlt wr hE.out.fz
      have hmem : ends.getD k end0 ∈ ends := by rw [getD_elem0 _ _ _ (by rw [hne.out]; exact hlt)]; exact List.getElem_mem _
      have hgk := hgE.out _ hmem
      have g1 : (ends.getD k end0).1.size ≤ reachBytes := hgk.1
      have g2 : (ends.getD k end0).2.size ≤ reachBytes := hgk.2
      have hbad : Hid (endBad ends k = _) := Lib.hid (endBad.eq_1 ends k)
      have hEb := Lib.hid (fun o => hE.out.alloc o)
      clear f hmem hgk
      generalize (ends.getD k end0).1 = y1 at *
      generalize (ends.getD k end0).2 = y2 at *
      obtain ⟨q1, hq1⟩ : ∃ q, Hid (wordB y1 = q) := ⟨_, Lib.hid rfl⟩
      have hem : y2.toList.isEmpty = decide (y2.size = 0) := isEmpty_iff y2
      cases q1
      · go_wp2_with (go_at_call 16; refine (RisWord_any _ _ g1 hq1.out).mono ?_; rintro e w' ⟨rfl, rfl⟩)
        go_ret
        exact ⟨ret_int (by rw [← hF.out, cdrF, if_neg (by simp [H0.out]), if_neg (by rw [hns.out, hne.out, hnr.out, hnx.out]; omega), if_neg (by rw [hris.out]; simp), endsF_at hne hlt hez (by rw [hbad.out, if_pos hq1.out]), if_pos (by decide)]), (HI.out.callB (hEb.out _).bel).bel⟩
      · have e1 : Hid (¬ wordB y1 = false) := Lib.hid (by rw [hq1.out]; simp)
        by_cases hz : y2.size = 0
        · rw [decide_eq_true hz] at hem
          have he2 := List.isEmpty_iff.1 hem
          have HZ := Lib.hid hz
          clear hz
          go_wp2_with (go_at_call 16; refine (RisWord_any _ _ g1 hq1.out).mono ?_; rintro e w' ⟨rfl, rfl⟩)
          go_roundw
          case rel => exact ⟨k + 1, by omega, by go_num, next_ok hez (by rw [hbad.out, if_neg e1.out, if_neg (fun h => h.1 HZ.out)]), Lib.hid (hEb.out _)⟩
          case measure => (simp [intOf] <;> omega)
        · rw [decide_eq_false hz] at hem
          have HZ := Lib.hid hz
          clear hz
          obtain ⟨q2, hq2⟩ : ∃ q, Hid (wordB y2 = q) := ⟨_, Lib.hid rfl⟩
          cases q2
          · go_wp2_with (first
              | (go_at_call 16; (with_reducible refine (RisWord_any y1 _ g1 hq1.out).mono ?_); rintro e w' ⟨rfl, rfl⟩)
              | (go_at_call 16; (with_reducible refine (RisWord_any y2 _ g2 hq2.out).mono ?_); rintro e w' ⟨rfl, rfl⟩))
            go_ret
            exact ⟨ret_int (by rw [← hF.out, cdrF, if_neg (by simp [H0.out]), if_neg (by rw [hns.out, hne.out, hnr.out, hnx.out]; omega), if_neg (by rw [hris.out]; simp), endsF_at hne hlt hez (by rw [hbad.out, if_neg e1.out, if_pos ⟨HZ.out, hq2.out⟩]), if_pos (by decide)]), (HI.out.callB (hEb.out _).bel).bel⟩
          · go_wp2_with (first
              | (go_at_call 16; (with_reducible refine (RisWord_any y1 _ g1 hq1.out).mono ?_); rintro e w' ⟨rfl, rfl⟩)
              | (go_at_call 16; (with_reducible refine (RisWord_any y2 _ g2 hq2.out).mono ?_); rintro e w' ⟨rfl, rfl⟩))
            go_roundw
            case rel => exact ⟨k + 1, by omega, by go_num, next_ok hez (by rw [hbad.out, if_neg e1.out, if_neg (fun h => by rw [hq2.out] at h; exact absurd h.2 (by simp))]), Lib.hid (hEb.out _)⟩
            case measure => (simp [intOf] <;> omega)
    · obtain rfl : ne = k := by omega
      have hends : Hid (endsF ends = 0) := Lib.hid (by rw [endsF, hne.out, scan_zero _ _ hez.out])
      clear hlt hk
      have q3 : wr.cell? ⟨bc, 3, none⟩ = some (.slice a3 nr c3) := (hE.out.fz.blk hX.out).cell 3
      go_wp2
      clear q3
      go_loopw [72] (fun i wr => ∃ k : Nat, k ≤ nr ∧ i = .int .i64 k ∧ Hid (∀ i, i < k → rulBad l (rs.getD i rul0) = 0) ∧ Hid (Inv w2.heap.size w2 φ1 φ1 wr)) (fun i _ => nr - (intOf i).toNat)
      case atStart => exact ⟨0, Nat.zero_le _, rfl, Lib.hid (fun i hi => by omega), hE⟩
      case round =>
        clear hE hez
        obtain ⟨k, hk, rfl, hrz, hE⟩ := hrel
        rename World => wr
        by_cases hlt : k < nr
        · obtain ⟨b, off, rfl, f⟩ := sR1.rulD hnr hlt
          obtain ⟨x1, y1, x2, y2, s1, s2, f2⟩ := f k hlt
          obtain ⟨hbl, d1, d2, d3⟩ := f2 wr hE.out.fz
          have hgk := hgR.out (rs.getD k rul0) (by rw [getD_elem0 _ _ _ (by rw [hnr.out]; exact hlt)]; exact List.getElem_mem _)
          have hrb : Hid (rulBad l (rs.getD k rul0) = rulBad l (rs.getD k rul0)) := Lib.hid rfl
          obtain ⟨R, hR⟩ : ∃ R, Hid (rs.getD k rul0 = R) := ⟨_, Lib.hid rfl⟩
          rw [hR.out] at s1 s2 d1 d2 d3 hgk
          obtain ⟨r1, r2, x3⟩ := R
          dsimp only at s1 s2 d1 d2 d3
          obtain ⟨n1, hn1⟩ : ∃ n1, Hid (r1.length = n1) := ⟨_, Lib.hid rfl⟩
          obtain ⟨n2, hn2⟩ : ∃ n2, Hid (r2.length = n2) := ⟨_, Lib.hid rfl⟩
          rw [hn1.out] at d1
          rw [hn2.out] at d2
          obtain ⟨q, hq⟩ : ∃ q, Hid (rulBad l (r1, r2, x3) = q) := ⟨_, Lib.hid rfl⟩
          have hEb := Lib.hid (hE.out.alloc (.cells #[.slice x1 n1 y1, .slice x2 n2 y2, .int .i64 x3] 48))
          have q0 : (wr.alloc (.cells #[.slice x1 n1 y1, .slice x2 n2 y2, .int .i64 x3] 48)).cell? ⟨bc, 0, none⟩ = some (.slice an nn cn) := (hEb.out.fz.blk hX.out).cell 0
          have HGK := Lib.hid hgk
          clear f f2 hgk
          go_wp2_with fail
          refine (RcheckRule_any x3 hEb.out.fz sN1 HFR s1 hn1 s2 hn2 HGK hq).mono ?_
          rintro e W3 ⟨rfl, hb3⟩
          have hE3 := Lib.hid (hEb.out.callB hb3)
          clear q0 d1 d2 d3 hb3 hbl
          by_cases hq0 : q = 0
          · have hg : ((q : Int) != 0) = false := by simp [hq0]
            have HQ0 := Lib.hid hq0
            clear hq0
            go_wp2
            go_roundw
            case rel => exact ⟨k + 1, by omega, by go_num, next_rul hrz (by rw [hR.out, hq.out, HQ0.out]), hE3⟩
            case measure => (simp [intOf] <;> omega)
          · have hg : ((q : Int) != 0) = true := by simp [hq0]
            have HQ0 := Lib.hid hq0
            clear hq0
            go_wp2
            go_ret
            exact ⟨ret_int (by rw [← hF.out, cdrF, if_neg (by simp [H0.out]), if_neg (by rw [hns.out, hne.out, hnr.out, hnx.out]; omega), if_neg (by rw [hris.out]; simp), if_neg (by rw [hends.out]; simp), rulsF_at hnr hlt hrz (by rw [hR.out, hq.out]) HQ0.out, if_pos HQ0.out]), (HI.out.callB hE3.out.bel).bel⟩
        · obtain rfl : nr = k := by omega
          have hrul : Hid (rulsF l rs = 0) := Lib.hid (rulsF_ok hnr hrz)
          clear hlt hk hrz
          have q4 : wr.cell? ⟨bc, 4, none⟩ = some (.slice a4 nx c4) := (hE.out.fz.blk hX.out).cell 4
          go_wp2
          clear q4
          go_loopw [87] (fun i wr => ∃ k : Nat, k ≤ nx ∧ i = .int .i64 k ∧ Hid (∀ i, i < k → exmBad l xs i = 0) ∧ Hid (Inv w2.heap.size w2 φ1 φ1 wr)) (fun i _ => nx - (intOf i).toNat)
          case atStart => exact ⟨0, Nat.zero_le _, rfl, none_yet _, hE⟩
          case round =>
            clear hE
            obtain ⟨k, hk, rfl, hxz, hE⟩ := hrel
            rename World => wr
            by_cases hlt : k < nx
            · obtain ⟨b, off, rfl, f⟩ := sX1.exmD hnx hlt
              obtain ⟨hbl, d1, d2⟩ := f k hlt wr hE.out.fz
              have g1 : (xs.getD k exm0).1.size ≤ reachBytes := (hgX.out _ (by rw [getD_elem0 _ _ _ (by rw [hnx.out]; exact hlt)]; exact List.getElem_mem _)).1
              unfold reachBytes at g1
              have hbad : Hid (exmBad l xs k = _) := Lib.hid (exmBad.eq_1 l xs k)
              clear f
              generalize (xs.getD k exm0).1 = y1 at *
              generalize (xs.getD k exm0).2 = y2 at *
              have hEb := Lib.hid (hE.out.alloc (.cells #[.string y1, .int .i64 y2] 51))
              have q0 : (wr.alloc (.cells #[.string y1, .int .i64 y2] 51)).cell? ⟨bc, 0, none⟩ = some (.slice an nn cn) := (hEb.out.fz.blk hX.out).cell 0
              by_cases h1000 : 1000 < y1.size
              · go_wp2
                go_ret
                exact ⟨ret_int (by rw [← hF.out, cdrF, if_neg (by simp [H0.out]), if_neg (by rw [hns.out, hne.out, hnr.out, hnx.out]; omega), if_neg (by rw [hris.out]; simp), if_neg (by rw [hends.out]; simp), if_neg (by rw [hrul.out]; simp), exmsF_at hnx hlt hxz (by rw [hbad.out, if_pos h1000]) (by decide)]), (HI.out.callB hEb.out.bel).bel⟩
              obtain ⟨q, hq⟩ : ∃ q, Hid (ix l y2 = q) := ⟨_, Lib.hid rfl⟩
              cases q with
              | none =>
                have hf := fdI_none hq.out
                go_wp2_with (go_at_call 18; refine (find_any hEb.out.fz sN1 HFR y2).mono ?_; rintro e w' ⟨rfl, hb'⟩; rw [hf]; have hE3 := Lib.hid (hEb.out.callB hb'); clear hb')
                go_ret
                exact ⟨ret_int (by rw [← hF.out, cdrF, if_neg (by simp [H0.out]), if_neg (by rw [hns.out, hne.out, hnr.out, hnx.out]; omega), if_neg (by rw [hris.out]; simp), if_neg (by rw [hends.out]; simp), if_neg (by rw [hrul.out]; simp), exmsF_at hnx hlt hxz (by rw [hbad.out, if_neg h1000, if_neg (by rw [hq.out]; simp)]) (by decide)]), (HI.out.callB hE3.out.bel).bel⟩
              | some i =>
                have hf := fdI_some hq.out
                go_wp2_with (go_at_call 18; refine (find_any hEb.out.fz sN1 HFR y2).mono ?_; rintro e w' ⟨rfl, hb'⟩; rw [hf]; have hE3 := Lib.hid (hEb.out.callB hb'); clear hb')
                go_roundw
                case rel => exact ⟨k + 1, by omega, by go_num, next_ok hxz (by rw [hbad.out, if_neg h1000, if_pos (by rw [hq.out]; rfl)]), hE3⟩
                case measure => (simp [intOf] <;> omega)
            · obtain rfl : nx = k := by omega
              go_wp2
              go_ret
              exact ⟨ret_int (by rw [← hF.out, cdrF, if_neg (by simp [H0.out]), if_neg (by rw [hns.out, hne.out, hnr.out, hnx.out]; omega), if_neg (by rw [hris.out]; simp), if_neg (by rw [hends.out]; simp), if_neg (by rw [hrul.out]; simp), exmsF, hnx.out, scan_zero _ _ hxz.out]), (HI.out.callB hE.out.bel).bel⟩
theorem RcheckText_any
  {nn : Nat} {an : Option Addr} {cn : Nat} {l : List Nod} {ns : Nat} {a1 : Option Addr} {c1 : Nat} {stops : List ByteArray} {ne : Nat} {a2 : Option Addr} {c2 : Nat} {ends : List Endg} {nr : Nat} {a3 : Option Addr} {c3 : Nat} {rs : List Rul} {nx : Nat} {a4 : Option Addr} {c4 : Nat} {xs : List Exm} {w : World} {φ : Phi} (hφ : Fz φ w) (sN : SlV φ an cn l) (hnn : Hid (l.length = nn)) (hmn : nn ≤ 9223372036854775807) (sS : SlV φ a1 c1 stops) (hns : Hid (stops.length = ns)) (hms : ns ≤ 9223372036854775807) (sE : SlV φ a2 c2 ends) (hne : Hid (ends.length = ne)) (hme : ne ≤ 9223372036854775807) (sR : SlV φ a3 c3 rs) (hnr : Hid (rs.length = nr)) (hmr : nr ≤ 9223372036854775807) (sX : SlV φ a4 c4 xs) (hnx : Hid (xs.length = nx)) (hmx : nx ≤ 9223372036854775807) (hgS : Hid (∀ x ∈ stops, StrG x)) (hgE : Hid (∀ x ∈ ends, StrG x.1 ∧ StrG x.2)) (hgR : Hid (∀ x ∈ rs, RulG x)) (hgX : Hid (∀ x ∈ xs, StrG x.1 ∧ IsI64 x.2)) {F : Int} (hF : Hid (cdrF l stops ends rs xs = F))
    (text : ByteArray) (hx : text.size ≤ reachBytes) {G : Int} (hG : Hid (askF F text = G)) : Calls Try.prog 11 #[.agg #[.slice an nn cn, .slice a1 ns c1, .slice a2 ne c2, .slice a3 nr c3, .slice a4 nx c4], .string text] w (fun e w' => e = .returned (.int .i64 G) ∧ Below w.heap.size w w') := by
  have hX := Lib.hid ((Inv.start hφ).alloc (.cells #[.slice an nn cn, .slice a1 ns c1, .slice a2 ne c2, .slice a3 nr c3, .slice a4 nx c4] 28))
  unfold reachBytes at hx
  go_enter Try.func11, Try.ntmps11
  go_wp2_with fail
  refine (RCheckCoder_any
    hX.out.fz sN hnn hmn sS hns hms sE hne hme sR hnr hmr sX hnx hmx hgS hgE hgR hgX hF
    ).mono ?_
  rintro e w2 ⟨rfl, hb⟩
  have HB := Lib.hid (hX.out.callB hb).bel
  clear hb
  by_cases h0 : F = 0
  · have hg : ((F : Int) != 0) = false := by simp [h0]
    have H0 := Lib.hid h0
    clear h0
    by_cases hz : 1000 < text.size
    · go_wp2
      go_ret
      exact ⟨ret_int (by rw [← hG.out, askF, if_neg (by rw [H0.out]; simp), if_pos hz]), HB.out⟩
    · go_wp2
      go_ret
      exact ⟨ret_int (by rw [← hG.out, askF, if_neg (by rw [H0.out]; simp), if_neg hz]), HB.out⟩
  · have hg : ((F : Int) != 0) = true := by simp [h0]
    have H0 := Lib.hid h0
    clear h0
    go_wp2
    go_ret
    exact ⟨ret_int (by rw [← hG.out, askF, if_pos H0.out]), HB.out⟩
set_option maxHeartbeats 1000000 in
theorem RWords_any
  {nn : Nat} {an : Option Addr} {cn : Nat} {l : List Nod} {ns : Nat} {a1 : Option Addr} {c1 : Nat} {stops : List ByteArray} {ne : Nat} {a2 : Option Addr} {c2 : Nat} {ends : List Endg} {nr : Nat} {a3 : Option Addr} {c3 : Nat} {rs : List Rul} {nx : Nat} {a4 : Option Addr} {c4 : Nat} {xs : List Exm} {w : World} {φ : Phi} (hφ : Fz φ w) (sN : SlV φ an cn l) (hnn : Hid (l.length = nn)) (hmn : nn ≤ 9223372036854775807) (sS : SlV φ a1 c1 stops) (hns : Hid (stops.length = ns)) (hms : ns ≤ 9223372036854775807) (sE : SlV φ a2 c2 ends) (hne : Hid (ends.length = ne)) (hme : ne ≤ 9223372036854775807) (sR : SlV φ a3 c3 rs) (hnr : Hid (rs.length = nr)) (hmr : nr ≤ 9223372036854775807) (sX : SlV φ a4 c4 xs) (hnx : Hid (xs.length = nx)) (hmx : nx ≤ 9223372036854775807) (hgS : Hid (∀ x ∈ stops, StrG x)) (hgE : Hid (∀ x ∈ ends, StrG x.1 ∧ StrG x.2)) (hgR : Hid (∀ x ∈ rs, RulG x)) (hgX : Hid (∀ x ∈ xs, StrG x.1 ∧ IsI64 x.2)) {F : Int} (hF : Hid (cdrF l stops ends rs xs = F))
    (text : ByteArray) (hx : text.size ≤ reachBytes) {R : List ByteArray × Int} (hR : Hid (wrdR F stops ends text = R)) : Calls Try.prog 5 #[.agg #[.slice an nn cn, .slice a1 ns c1, .slice a2 ne c2, .slice a3 nr c3, .slice a4 nx c4], .string text] w (SlPost R φ w) := by
  obtain ⟨φ1, le1, i1, k1⟩ := (Inv.start hφ).frz (.cells #[.slice an nn cn, .slice a1 ns c1, .slice a2 ne c2, .slice a3 nr c3, .slice a4 nx c4] 28)
  obtain ⟨G, hG⟩ : ∃ G, Hid (askF F text = G) := ⟨_, Lib.hid rfl⟩
  have hX := Lib.hid ((Inv.start hφ).alloc (.cells #[.slice an nn cn, .slice a1 ns c1, .slice a2 ne c2, .slice a3 nr c3, .slice a4 nx c4] 28))
  have hI1 := Lib.hid i1
  go_enter Try.func5, Try.ntmps5
  go_wp2_with fail
  refine (RcheckText_any
    hX.out.fz sN hnn hmn sS hns hms sE hne hme sR hnr hmr sX hnx hmx hgS hgE hgR hgX hF
    text hx hG).mono ?_
  rintro e w2 ⟨rfl, hb⟩
  have HI := Lib.hid (hI1.out.callB hb)
  have HX2 := Lib.hid (hX.out.callB hb)
  obtain ⟨bc, hbc⟩ : ∃ bc, Hid (w.heap.size = bc) := ⟨_, Lib.hid rfl⟩
  have hK : Hid (φ1 bc = some (.cells #[.slice an nn cn, .slice a1 ns c1, .slice a2 ne c2, .slice a3 nr c3, .slice a4 nx c4] 28)) := Lib.hid (by rw [← hbc.out]; exact k1)
  clear hb i1 k1
  rw [hbc.out]
  by_cases h0 : G = 0
  · have hg : ((G : Int) != 0) = false := by simp [h0]
    have H0 := Lib.hid h0
    have hz : Hid (text.size ≤ 1000) := Lib.hid (by
      have := hG.out
      rw [h0, askF] at this
      split at this
      · next q => exact absurd this q
      · split at this
        · cases this
        · omega)
    clear h0
    have q0 : w2.cell? ⟨bc, 0, none⟩ = some (.slice an nn cn) := (HI.out.fz.blk hK.out).cell 0
    have q1 : w2.cell? ⟨bc, 1, none⟩ = some (.slice a1 ns c1) := (HI.out.fz.blk hK.out).cell 1
    have q2 : w2.cell? ⟨bc, 2, none⟩ = some (.slice a2 ne c2) := (HI.out.fz.blk hK.out).cell 2
    have q3 : w2.cell? ⟨bc, 3, none⟩ = some (.slice a3 nr c3) := (HI.out.fz.blk hK.out).cell 3
    have q4 : w2.cell? ⟨bc, 4, none⟩ = some (.slice a4 nx c4) := (HI.out.fz.blk hK.out).cell 4
    obtain ⟨t, ht⟩ : ∃ t, Hid (wordsF stops ends text = t) := ⟨_, Lib.hid rfl⟩
    go_wp2_with (go_at_call 12; refine (Rwords_any (HX2.out.fz) sS hns hms sE hne hme hgE text hz.out ht).mono ?_; rintro e w3 ⟨a, cap, φ', rfl, hi, s⟩; have HI3 := Lib.hid (HX2.out.call hi); have HS := Lib.hid s; clear hi s)
    go_ret2
    have e : R = (t, 0) := by rw [← hR.out, wrdR, hG.out, if_neg (by rw [H0.out]; simp), ht.out]
    exact ⟨a, cap, φ', by rw [e]; rfl, HI3.out, by rw [e]; exact HS.out⟩
  · have hg : ((G : Int) != 0) = true := by simp [h0]
    have H0 := Lib.hid h0
    clear h0
    go_wp2
    go_ret2
    have e : R = ([], G) := by rw [← hR.out, wrdR, hG.out, if_pos H0.out]
    exact ⟨none, 0, φ, by rw [e]; rfl, HX2.out, by rw [e]; exact SlV.empty _⟩
end Go.Proofs.Ytapkkplndhbapaa
