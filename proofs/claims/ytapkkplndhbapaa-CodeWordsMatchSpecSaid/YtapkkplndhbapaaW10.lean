/- The walk of machineOf, CheckCoder and Words. Conditions: none beyond what the claim form gives. -/
import Derived.Test.YtapkkplndhbapaaW9
namespace Go.Proofs.Ytapkkplndhbapaa
open Go.RowKit
set_option linter.unusedVariables false
theorem far {w w' : World} {b o : Nat} (h : w'.heap[b]? = w.heap[b]?) : w'.cell? ⟨b, o, none⟩ = w.cell? ⟨b, o, none⟩ ∧ w'.frozen? ⟨b, o, none⟩ = w.frozen? ⟨b, o, none⟩ := by
  unfold World.cell? World.frozen?
  dsimp only
  rw [h]; exact ⟨rfl, rfl⟩
/-- A machine of a coder. -/
structure MchOk (w : World) (φ : Phi) (nn : Nat) (an : Option Addr) (cn : Nat) (l : List Nod) (ns : Nat) (a1 : Option Addr) (c1 : Nat) (stops : List ByteArray) (ne : Nat) (a2 : Option Addr) (c2 : Nat) (ends : List Endg) (nr : Nat) (a3 : Option Addr) (c3 : Nat) (nx : Nat) (a4 : Option Addr) (c4 : Nat) (xs : List Exm) (bm : Nat) (w' : World) : Prop where
  ok : TrOk l nn
  le : ns ≤ 60 ∧ ne ≤ 40 ∧ nr ≤ 200 ∧ nx ≤ 2000
  ex : ∃ w2 φ1 φ2 bt m1 m2 ta tc hs r hd, Inv w.heap.size w φ φ1 w2 ∧ TreeW w' bt an cn nn m1 m2 (atF l) (lvF l) ∧ MchSt w2 φ1 φ2 bm (.slice an nn cn) (.slice a1 ns c1) (.slice a2 ne c2) (.slice a3 nr c3) (.slice a4 nx c4) (.pointer (some ⟨bt, 0, none⟩)) ta tc hs (txsF stops ends xs nx) r hd (whF (txsF stops ends xs nx) 0) w'
set_option maxRecDepth 100000 in
set_option maxHeartbeats 4000000 in
theorem machineOf_any
  {nn : Nat} {an : Option Addr} {cn : Nat} {l : List Nod} {ns : Nat} {a1 : Option Addr} {c1 : Nat} {stops : List ByteArray} {ne : Nat} {a2 : Option Addr} {c2 : Nat} {ends : List Endg} {nr : Nat} {a3 : Option Addr} {c3 : Nat} {rs : List Rul} {nx : Nat} {a4 : Option Addr} {c4 : Nat} {xs : List Exm} {w : World} {φ : Phi} (hφ : Fz φ w) (sN : SlV φ an cn l) (hnn : Hid (l.length = nn)) (hmn : nn ≤ 9223372036854775807) (sS : SlV φ a1 c1 stops) (hns : Hid (stops.length = ns)) (hms : ns ≤ 9223372036854775807) (sE : SlV φ a2 c2 ends) (hne : Hid (ends.length = ne)) (hme : ne ≤ 9223372036854775807) (sR : SlV φ a3 c3 rs) (hnr : Hid (rs.length = nr)) (hmr : nr ≤ 9223372036854775807) (sX : SlV φ a4 c4 xs) (hnx : Hid (xs.length = nx)) (hmx : nx ≤ 9223372036854775807) (hgS : Hid (∀ x ∈ stops, StrG x)) (hgE : Hid (∀ x ∈ ends, StrG x.1 ∧ StrG x.2)) (hgR : Hid (∀ x ∈ rs, RulG x)) (hgX : Hid (∀ x ∈ xs, StrG x.1 ∧ IsI64 x.2)) {F : Int} (hF : Hid (cdrF l stops ends rs xs = F))
    : Calls Try.prog 13 #[.agg #[.slice an nn cn, .slice a1 ns c1, .slice a2 ne c2, .slice a3 nr c3, .slice a4 nx c4]] w (fun e w' => Below w.heap.size w w' ∧ ((F ≠ 0 ∧ e = .returned (.tuple #[.pointer none, .int .i64 F])) ∨ (F = 0 ∧ ∃ bm, e = .returned (.tuple #[.pointer (some ⟨bm, 0, none⟩), .int .i64 0]) ∧ MchOk w φ nn an cn l ns a1 c1 stops ne a2 c2 ends nr a3 c3 nx a4 c4 xs bm w'))) := by
  have hmm := @run_makeMap Try.prog
  obtain ⟨φ1, le1, i1, k1⟩ := (Inv.start hφ).frz (.cells #[.slice an nn cn, .slice a1 ns c1, .slice a2 ne c2, .slice a3 nr c3, .slice a4 nx c4] 28)
  have sN1 := sN.mono le1
  have sS1 := sS.mono le1
  have sE1 := sE.mono le1
  have sR1 := sR.mono le1
  have sX1 := sX.mono le1
  go_enter Try.func13, Try.ntmps13
  go_wp2_with fail
  refine (treeOf_any i1.fz sN1 hnn hmn).mono ?_
  rintro e w2 ⟨hb, hcase⟩
  have HI := Lib.hid (i1.callB hb)
  have HIb := Lib.hid HI.out.bel
  rcases hcase with ⟨h0, rfl⟩ | ⟨h0, hok, bt, m1, m2, rfl, ht⟩
  · obtain ⟨q, hq⟩ : ∃ q, Hid (treeF l = q) := ⟨_, Lib.hid rfl⟩
    rw [hq.out] at h0 ⊢
    have hg : ((q : Int) != 0) = true := by simp [h0]
    have H0 := Lib.hid h0
    clear h0 hb i1
    go_wp2
    go_ret2
    exact ⟨HIb.out, .inl ⟨by rw [← hF.out, cdrF, hq.out, if_pos H0.out]; exact H0.out, by rw [← hF.out, cdrF, hq.out, if_pos H0.out]; rfl⟩⟩
  have H0 := Lib.hid h0
  have HO := Lib.hid hok
  have HT := Lib.hid ht
  obtain ⟨bc, hbc⟩ : ∃ bc, Hid (w.heap.size = bc) := ⟨_, Lib.hid rfl⟩
  have hX : Hid (φ1 bc = some (.cells #[.slice an nn cn, .slice a1 ns c1, .slice a2 ne c2, .slice a3 nr c3, .slice a4 nx c4] 28)) := Lib.hid (by rw [← hbc.out]; exact k1)
  clear h0 hok ht hb i1 k1
  rw [hbc.out]
  have q1 : w2.cell? ⟨bc, 1, none⟩ = some (.slice a1 ns c1) := (HI.out.fz.blk hX.out).cell 1
  have q2 : w2.cell? ⟨bc, 2, none⟩ = some (.slice a2 ne c2) := (HI.out.fz.blk hX.out).cell 2
  have q3 : w2.cell? ⟨bc, 3, none⟩ = some (.slice a3 nr c3) := (HI.out.fz.blk hX.out).cell 3
  have q4 : w2.cell? ⟨bc, 4, none⟩ = some (.slice a4 nx c4) := (HI.out.fz.blk hX.out).cell 4
  by_cases z1 : 60 < ns
  · go_wp2
    go_ret2
    exact ⟨HIb.out, .inl ⟨by rw [← hF.out, cdrF, if_neg (by simp [H0.out]), if_pos (by rw [hns.out]; exact .inl z1)]; decide, by rw [← hF.out, cdrF, if_neg (by simp [H0.out]), if_pos (by rw [hns.out]; exact .inl z1)]; rfl⟩⟩
  by_cases z2 : 40 < ne
  · go_wp2
    go_ret2
    exact ⟨HIb.out, .inl ⟨by rw [← hF.out, cdrF, if_neg (by simp [H0.out]), if_pos (by rw [hne.out]; exact .inr (.inl z2))]; decide, by rw [← hF.out, cdrF, if_neg (by simp [H0.out]), if_pos (by rw [hne.out]; exact .inr (.inl z2))]; rfl⟩⟩
  by_cases z3 : 200 < nr
  · go_wp2
    go_ret2
    exact ⟨HIb.out, .inl ⟨by rw [← hF.out, cdrF, if_neg (by simp [H0.out]), if_pos (by rw [hnr.out]; exact .inr (.inr (.inl z3)))]; decide, by rw [← hF.out, cdrF, if_neg (by simp [H0.out]), if_pos (by rw [hnr.out]; exact .inr (.inr (.inl z3)))]; rfl⟩⟩
  by_cases z4 : 2000 < nx
  · go_wp2
    go_ret2
    exact ⟨HIb.out, .inl ⟨by rw [← hF.out, cdrF, if_neg (by simp [H0.out]), if_pos (by rw [hnx.out]; exact .inr (.inr (.inr z4)))]; decide, by rw [← hF.out, cdrF, if_neg (by simp [H0.out]), if_pos (by rw [hnx.out]; exact .inr (.inr (.inr z4)))]; rfl⟩⟩
  obtain ⟨q, hq⟩ : ∃ q, Hid (risF stops = q) := ⟨_, Lib.hid rfl⟩
  by_cases hq0 : q = 0
  case neg =>
    have hg : ((q : Int) != 0) = true := by simp [hq0]
    have HQ0 := Lib.hid hq0
    clear hq0
    go_wp2_with (go_at_call 25; refine (risingWords_any ns a1 c1 stops _ φ1 HI.out.fz sS1 hns hms hgS).mono ?_; rintro e w' ⟨rfl, rfl⟩; rw [hq.out])
    go_ret2
    exact ⟨HIb.out, .inl ⟨by rw [← hF.out, cdrF, if_neg (by simp [H0.out]), if_neg (by rw [hns.out, hne.out, hnr.out, hnx.out]; omega), hq.out, if_pos HQ0.out]; exact HQ0.out, by rw [← hF.out, cdrF, if_neg (by simp [H0.out]), if_neg (by rw [hns.out, hne.out, hnr.out, hnx.out]; omega), hq.out, if_pos HQ0.out]; rfl⟩⟩
  have hg : ((q : Int) != 0) = false := by simp [hq0]
  have hris : Hid (risF stops = 0) := Lib.hid (by rw [hq.out, hq0])
  clear hq0
  go_wp2_with (go_at_call 25; refine (risingWords_any ns a1 c1 stops _ φ1 HI.out.fz sS1 hns hms hgS).mono ?_; rintro e w' ⟨rfl, rfl⟩; rw [hq.out])
  clear q1 q2 q3 q4 hg
  go_loopw [58] (fun i wr => ∃ k : Nat, k ≤ ne ∧ i = .int .i64 k ∧ Hid (∀ i, i < k → endBad ends i = 0) ∧ Hid (Inv w2.heap.size w2 φ1 φ1 wr)) (fun i _ => ne - (intOf i).toNat)
  case atStart => exact ⟨0, Nat.zero_le _, rfl, none_yet _, Lib.hid (Inv.start HI.out.fz)⟩
  case round =>
    obtain ⟨k, hk, rfl, hez, hE⟩ := hrel
    by_cases hlt : k < ne
    · obtain ⟨b, off, rfl, f⟩ := sE1.endD hne hlt
      obtain ⟨hbl, d1, d2⟩ := f k hlt wr hE.out.fz
      have hmem : ends.getD k end0 ∈ ends := by rw [getD_elem0 _ _ _ (by rw [hne.out]; exact hlt)]; exact List.getElem_mem _
      have hgk := hgE.out _ hmem
      have g1 : (ends.getD k end0).1.size ≤ reachBytes := hgk.1
      have g2 : (ends.getD k end0).2.size ≤ reachBytes := hgk.2
      have hbad : Hid (endBad ends k = _) := Lib.hid (endBad.eq_1 ends k)
      have hEb := Lib.hid (fun o => hE.out.alloc o)
      clear f hmem hgk
      generalize (ends.getD k end0).1 = y1 at *
      generalize (ends.getD k end0).2 = y2 at *
      obtain ⟨q1, hq1⟩ : ∃ q, Hid (wordB y1 = q) := ⟨_, Lib.hid rfl⟩
      have hem : y2.toList.isEmpty = decide (y2.size = 0) := isEmpty_iff y2
      cases q1
      · go_wp2_with (go_at_call 26; refine (isWord_any _ _ g1 hq1.out).mono ?_; rintro e w' ⟨rfl, rfl⟩)
        go_ret2
        exact ⟨(HI.out.callB (hEb.out _).bel).bel, .inl ⟨by rw [← hF.out, cdrF, if_neg (by simp [H0.out]), if_neg (by rw [hns.out, hne.out, hnr.out, hnx.out]; omega), if_neg (by rw [hris.out]; simp), endsF_at hne hlt hez (by rw [hbad.out, if_pos hq1.out]), if_pos (by decide)]; decide, by rw [← hF.out, cdrF, if_neg (by simp [H0.out]), if_neg (by rw [hns.out, hne.out, hnr.out, hnx.out]; omega), if_neg (by rw [hris.out]; simp), endsF_at hne hlt hez (by rw [hbad.out, if_pos hq1.out]), if_pos (by decide)]; rfl⟩⟩
      · have e1 : Hid (¬ wordB y1 = false) := Lib.hid (by rw [hq1.out]; simp)
        by_cases hz : y2.size = 0
        · rw [decide_eq_true hz] at hem
          have he2 := List.isEmpty_iff.1 hem
          have HZ := Lib.hid hz
          clear hz
          go_wp2_with (go_at_call 26; refine (isWord_any _ _ g1 hq1.out).mono ?_; rintro e w' ⟨rfl, rfl⟩)
          go_roundw
          case rel => exact ⟨k + 1, by omega, by go_num, next_ok hez (by rw [hbad.out, if_neg e1.out, if_neg (fun h => h.1 HZ.out)]), Lib.hid (hEb.out _)⟩
          case measure => (simp [intOf] <;> omega)
        · rw [decide_eq_false hz] at hem
          have HZ := Lib.hid hz
          clear hz
          obtain ⟨q2, hq2⟩ : ∃ q, Hid (wordB y2 = q) := ⟨_, Lib.hid rfl⟩
          cases q2
          · go_wp2_with (first
              | (go_at_call 26; (with_reducible refine (isWord_any y1 _ g1 hq1.out).mono ?_); rintro e w' ⟨rfl, rfl⟩)
              | (go_at_call 26; (with_reducible refine (isWord_any y2 _ g2 hq2.out).mono ?_); rintro e w' ⟨rfl, rfl⟩))
            go_ret2
            exact ⟨(HI.out.callB (hEb.out _).bel).bel, .inl ⟨by rw [← hF.out, cdrF, if_neg (by simp [H0.out]), if_neg (by rw [hns.out, hne.out, hnr.out, hnx.out]; omega), if_neg (by rw [hris.out]; simp), endsF_at hne hlt hez (by rw [hbad.out, if_neg e1.out, if_pos ⟨HZ.out, hq2.out⟩]), if_pos (by decide)]; decide, by rw [← hF.out, cdrF, if_neg (by simp [H0.out]), if_neg (by rw [hns.out, hne.out, hnr.out, hnx.out]; omega), if_neg (by rw [hris.out]; simp), endsF_at hne hlt hez (by rw [hbad.out, if_neg e1.out, if_pos ⟨HZ.out, hq2.out⟩]), if_pos (by decide)]; rfl⟩⟩
          · go_wp2_with (first
              | (go_at_call 26; (with_reducible refine (isWord_any y1 _ g1 hq1.out).mono ?_); rintro e w' ⟨rfl, rfl⟩)
              | (go_at_call 26; (with_reducible refine (isWord_any y2 _ g2 hq2.out).mono ?_); rintro e w' ⟨rfl, rfl⟩))
            go_roundw
            case rel => exact ⟨k + 1, by omega, by go_num, next_ok hez (by rw [hbad.out, if_neg e1.out, if_neg (fun h => by rw [hq2.out] at h; exact absurd h.2 (by simp))]), Lib.hid (hEb.out _)⟩
            case measure => (simp [intOf] <;> omega)
    · obtain rfl : ne = k := by omega
      have hends : Hid (endsF ends = 0) := Lib.hid (by rw [endsF, hne.out, scan_zero _ _ hez.out])
      clear hlt hk
      have q0 : wr.cell? ⟨bc, 0, none⟩ = some (.slice an nn cn) := (hE.out.fz.blk hX.out).cell 0
      have q1 : wr.cell? ⟨bc, 1, none⟩ = some (.slice a1 ns c1) := (hE.out.fz.blk hX.out).cell 1
      have q2 : wr.cell? ⟨bc, 2, none⟩ = some (.slice a2 ne c2) := (hE.out.fz.blk hX.out).cell 2
      have q3 : wr.cell? ⟨bc, 3, none⟩ = some (.slice a3 nr c3) := (hE.out.fz.blk hX.out).cell 3
      have q4 : wr.cell? ⟨bc, 4, none⟩ = some (.slice a4 nx c4) := (hE.out.fz.blk hX.out).cell 4
      have hM : Hid (MchSt w2 φ1 φ1 (wr.heap.size + 1) (.slice an nn cn) (.slice a1 ns c1) (.slice a2 ne c2) (.slice a3 nr c3) (.slice a4 nx c4) (.pointer (some ⟨bt, 0, none⟩)) none 0 [] [] wr.heap.size (fun _ => none) (fun _ => []) _) := Lib.hid (MchSt.start hE.out)
      go_wp2_with fail
      clear q0 q1 q2 q3 q4 hmm
      generalize (wr.alloc (.map #[] 0)).alloc (.cells #[.slice an nn cn, .slice a1 ns c1, .slice a2 ne c2, .slice a3 nr c3, .slice a4 nx c4, .pointer (some ⟨bt, 0, none⟩), .slice none 0 0, .map (some wr.heap.size)] 59) = W at *
      generalize wr.heap.size + 1 = bm at *
      generalize wr.heap.size = r at *
      clear hE hez
      obtain ⟨q, hqr⟩ : ∃ q, Hid (rulsF l rs = q) := ⟨_, Lib.hid rfl⟩
      by_cases hq0 : q = 0
      case neg =>
        have hg : ((q : Int) != 0) = true := by simp [hq0]
        have HQ0 := Lib.hid hq0
        clear hq0
        refine (rulesFault_any (l := l) (rs := rs) hM.out.inv.fz (Lib.hid hM.out.blk) (Lib.hid rfl) (Lib.hid rfl) sR1 hnr hmr hgR (Lib.hid (HT.out.callB hM.out.inv.bel))).mono ?_
        rintro e W3 ⟨rfl, hb3⟩
        rw [hqr.out]
        go_wp2
        go_ret2
        exact ⟨(HI.out.callB (hM.out.inv.bel.trans (hb3.mono hM.out.inv.bel.size))).bel, .inl ⟨by rw [← hF.out, cdrF, if_neg (by simp [H0.out]), if_neg (by rw [hns.out, hne.out, hnr.out, hnx.out]; omega), if_neg (by rw [hris.out]; simp), if_neg (by rw [hends.out]; simp), hqr.out, if_pos HQ0.out]; exact HQ0.out, by rw [← hF.out, cdrF, if_neg (by simp [H0.out]), if_neg (by rw [hns.out, hne.out, hnr.out, hnx.out]; omega), if_neg (by rw [hris.out]; simp), if_neg (by rw [hends.out]; simp), hqr.out, if_pos HQ0.out]; rfl⟩⟩
      have hg : ((q : Int) != 0) = false := by simp [hq0]
      have hrul : Hid (rulsF l rs = 0) := Lib.hid (by rw [hqr.out, hq0])
      clear hq0
      refine (rulesFault_any (l := l) (rs := rs) hM.out.inv.fz (Lib.hid hM.out.blk) (Lib.hid rfl) (Lib.hid rfl) sR1 hnr hmr hgR (Lib.hid (HT.out.callB hM.out.inv.bel))).mono ?_
      rintro e W3 ⟨rfl, hb3⟩
      rw [hqr.out]
      have hM3 := Lib.hid (hM.out.callB hb3)
      have q4 : W3.cell? ⟨bc, 4, none⟩ = some (.slice a4 nx c4) := (hM3.out.inv.fz.blk hX.out).cell 4
      clear hb3
      go_wp2
      clear hg hM q4
      go_loopw [91] (fun i wr => ∃ k : Nat, k ≤ nx ∧ i = .int .i64 k ∧ Hid (∀ i, i < k → exmBad l xs i = 0) ∧ Hid (MchSt w2 φ1 φ1 bm (.slice an nn cn) (.slice a1 ns c1) (.slice a2 ne c2) (.slice a3 nr c3) (.slice a4 nx c4) (.pointer (some ⟨bt, 0, none⟩)) none 0 [] [] r (fun _ => none) (fun _ => []) wr)) (fun i _ => nx - (intOf i).toNat)
      case atStart => exact ⟨0, Nat.zero_le _, rfl, none_yet _, hM3⟩
      case round =>
        clear hM3
        obtain ⟨k, hk, rfl, hxz, hM⟩ := hrel
        rename World => wr
        by_cases hlt : k < nx
        · obtain ⟨b, off, rfl, f⟩ := sX1.exmD hnx hlt
          obtain ⟨hbl, d1, d2⟩ := f k hlt wr hM.out.inv.fz
          have g1 : (xs.getD k exm0).1.size ≤ reachBytes := (hgX.out _ (by rw [getD_elem0 _ _ _ (by rw [hnx.out]; exact hlt)]; exact List.getElem_mem _)).1
          unfold reachBytes at g1
          have hbad : Hid (exmBad l xs k = _) := Lib.hid (exmBad.eq_1 l xs k)
          have hMb := Lib.hid (fun o => hM.out.callB ((Below.refl _ _).alloc (Nat.le_refl _) o))
          clear f
          generalize (xs.getD k exm0).1 = y1 at *
          generalize (xs.getD k exm0).2 = y2 at *
          by_cases h1000 : 1000 < y1.size
          · go_wp2
            go_ret2
            exact ⟨(HI.out.callB (hMb.out _).inv.bel).bel, .inl ⟨by rw [← hF.out, cdrF, if_neg (by simp [H0.out]), if_neg (by rw [hns.out, hne.out, hnr.out, hnx.out]; omega), if_neg (by rw [hris.out]; simp), if_neg (by rw [hends.out]; simp), if_neg (by rw [hrul.out]; simp), exmsF_at hnx hlt hxz (by rw [hbad.out, if_pos h1000]) (by decide)]; decide, by rw [← hF.out, cdrF, if_neg (by simp [H0.out]), if_neg (by rw [hns.out, hne.out, hnr.out, hnx.out]; omega), if_neg (by rw [hris.out]; simp), if_neg (by rw [hends.out]; simp), if_neg (by rw [hrul.out]; simp), exmsF_at hnx hlt hxz (by rw [hbad.out, if_pos h1000]) (by decide)]; rfl⟩⟩
          obtain ⟨q, hq⟩ : ∃ q, Hid ((atF l y2).isSome = q) := ⟨_, Lib.hid rfl⟩
          cases q
          · go_wp2_with (go_at_call 28; refine (has_b (HT.out.callB (hMb.out _).inv.bel) _ hq.out).mono ?_; rintro e w' ⟨rfl, rfl⟩)
            go_ret2
            exact ⟨(HI.out.callB (hMb.out _).inv.bel).bel, .inl ⟨by rw [← hF.out, cdrF, if_neg (by simp [H0.out]), if_neg (by rw [hns.out, hne.out, hnr.out, hnx.out]; omega), if_neg (by rw [hris.out]; simp), if_neg (by rw [hends.out]; simp), if_neg (by rw [hrul.out]; simp), exmsF_at hnx hlt hxz (by rw [hbad.out, if_neg h1000, if_neg (by rw [← atF_isSome, hq.out]; simp)]) (by decide)]; decide, by rw [← hF.out, cdrF, if_neg (by simp [H0.out]), if_neg (by rw [hns.out, hne.out, hnr.out, hnx.out]; omega), if_neg (by rw [hris.out]; simp), if_neg (by rw [hends.out]; simp), if_neg (by rw [hrul.out]; simp), exmsF_at hnx hlt hxz (by rw [hbad.out, if_neg h1000, if_neg (by rw [← atF_isSome, hq.out]; simp)]) (by decide)]; rfl⟩⟩
          · go_wp2_with (go_at_call 28; refine (has_b (HT.out.callB (hMb.out _).inv.bel) _ hq.out).mono ?_; rintro e w' ⟨rfl, rfl⟩)
            go_roundw
            case rel => exact ⟨k + 1, by omega, by go_num, next_ok hxz (by rw [hbad.out, if_neg h1000, if_pos (by rw [← atF_isSome, hq.out])]), Lib.hid (hMb.out _)⟩
            case measure => (simp [intOf] <;> omega)
        · obtain rfl : nx = k := by omega
          clear hlt hk
          have hF0 : Hid (F = 0) := Lib.hid (by rw [← hF.out, cdrF, if_neg (by simp [H0.out]), if_neg (by rw [hns.out, hne.out, hnr.out, hnx.out]; omega), if_neg (by rw [hris.out]; simp), if_neg (by rw [hends.out]; simp), if_neg (by rw [hrul.out]; simp), exmsF, hnx.out, scan_zero _ _ hxz.out])
          have hX1 : Hid (∀ k, k < nx → (xs.getD k exm0).1.size ≤ 1000) := Lib.hid (fun k hk => by
            have := hxz.out k hk
            unfold exmBad at this
            split at this
            · cases this
            · omega)
          clear hxz
          have q4 : wr.cell? ⟨bc, 4, none⟩ = some (.slice a4 nx c4) := (hM.out.inv.fz.blk hX.out).cell 4
          go_wp2
          clear q4
          go_loopw [108] (fun i wr => ∃ (k : Nat) (φk : Phi) (ta : Option Addr) (tc : Nat) (hs : List Hdr) (hd : WHd), k ≤ nx ∧ i = .int .i64 k ∧ Hid (MchSt w2 φ1 φk bm (.slice an nn cn) (.slice a1 ns c1) (.slice a2 ne c2) (.slice a3 nr c3) (.slice a4 nx c4) (.pointer (some ⟨bt, 0, none⟩)) ta tc hs (txsF stops ends xs k) r hd (whF (txsF stops ends xs k) 0) wr)) (fun i _ => nx - (intOf i).toNat)
          case atStart => exact ⟨0, φ1, none, 0, [], _, Nat.zero_le _, rfl, hM⟩
          case round =>
            clear hM
            obtain ⟨k, φk, ta, tc, hs, hd, hk, rfl, hM⟩ := hrel
            rename World => wr
            by_cases hlt : k < nx
            · obtain ⟨b, off, rfl, f⟩ := sX1.exmD hnx hlt
              obtain ⟨hbl, d1, d2⟩ := f k hlt wr (hM.out.inv.fz.sub hM.out.inv.le)
              have h1000 := hX1.out k hlt
              have hnext := Lib.hid (txsF_next (stops := stops) (ends := ends) hnx hlt)
              have htl := Lib.hid (txsF_len (stops := stops) (ends := ends) (k := k) hnx (by omega))
              have hMb := Lib.hid (hM.out.callB ((Below.refl _ _).alloc (Nat.le_refl _) (.cells #[.string (xs.getD k exm0).1, .int .i64 (xs.getD k exm0).2] 51)))
              clear f hM
              obtain ⟨t, ht⟩ : ∃ t, Hid (wordsF stops ends (xs.getD k exm0).1 = t) := ⟨_, Lib.hid rfl⟩
              rw [ht.out] at hnext
              generalize (xs.getD k exm0).1 = y1 at *
              generalize (xs.getD k exm0).2 = y2 at *
              have ht60 : Hid (t.length ≤ 60) := Lib.hid (by rw [← ht.out]; exact wordsF_len _ _ _)
              go_wp2_with fail
              refine (words_any hMb.out.inv.fz (Lib.hid hMb.out.blk) (Lib.hid rfl) (sS1.mono hMb.out.inv.le) hns hms (Lib.hid rfl) (sE1.mono hMb.out.inv.le) hne hme hgE y1 h1000 ht).mono ?_
              rintro e W4 ⟨al, cl, φ4, rfl, hi4, sl⟩
              have hM4 := Lib.hid (hMb.out.call hi4)
              obtain ⟨gs, hgs⟩ : ∃ gs, Hid (txsF stops ends xs k = gs) := ⟨_, Lib.hid rfl⟩
              rw [hgs.out] at hM4 hnext htl
              obtain ⟨nt, hnt⟩ : ∃ nt, Hid (t.length = nt) := ⟨_, Lib.hid rfl⟩
              have hnt6 : nt ≤ 60 := by rw [← hnt.out]; exact ht60.out
              rw [hnt.out]
              have hin := Lib.hid hM4.out.inv
              have hon := Lib.hid hM4.out.tx
              have hhl : hs.length ≤ 2000 := by have := hM4.out.hdr.len; have := htl.out.1; omega
              have c6 : W4.cell? ⟨bm, 6, none⟩ = some (.slice ta hs.length tc) := hM4.out.blk.cell 6
              have SL := Lib.hid sl
              clear hMb hi4 sl d1 d2 hbl
              go_wp2_with (at_builtin; (refine wpList_app1F (α := Hdr) rfl _ _ 56 rfl slSS hin.out ta tc _ hon.out _ _ (⟨al, nt, cl⟩ : Hdr) rfl rfl 1 rfl (by omega) ?_; intro ta8 tc8 w8 hi8 ho8 hg8 hf8; have hM5 := Lib.hid (hM4.out.text (g := t) (n := hs.length + 1) rfl hi8 ho8 hg8 hf8 ⟨SL.out, hnt.out.symm⟩ rfl); have hb8 : Blk w8 bm _ _ := (hg8.block bm (by have := hM4.out.blk.lt; simp; omega) (fun e => by (cases ta with | none => cases e | some z => exact (hM4.out.nb z rfl).1 (by simpa using e.symm)))).trans (hM4.out.blk.alloc _); have c8 := hb8.cell 6; have f8 := hb8.frz 6; simp at c8))
              clear c6 hin hon c8 f8 hb8 hi8 ho8 hg8 hf8
              generalize w8.setCell ⟨bm, 6, none⟩ (.slice ta8 (hs.length + 1) tc8) = W9 at *
              generalize hs ++ [(⟨al, nt, cl⟩ : Hdr)] = hs9 at *
              rw [← whJ_zero gs t] at hM5
              go_loopw [129] (fun i wi => ∃ (j : Nat) (hd : WHd), j ≤ nt ∧ i = .int .i64 j ∧ Hid (MchSt w2 φ1 φ4 bm (.slice an nn cn) (.slice a1 ns c1) (.slice a2 ne c2) (.slice a3 nr c3) (.slice (some ⟨b, off, none⟩) nx c4) (.pointer (some ⟨bt, 0, none⟩)) ta8 tc8 hs9 (gs ++ [t]) r hd (whJ gs t j) wi)) (fun i _ => nt - (intOf i).toNat)
              case atStart => exact ⟨0, _, Nat.zero_le _, rfl, hM5⟩
              case round =>
                clear hM5 hM4
                obtain ⟨j, hd9, hj, rfl, hM⟩ := hrel
                rename World => wi
                by_cases hjl : j < nt
                · obtain ⟨b2, off2, rfl, f⟩ := SL.out.strsD hnt hjl
                  obtain ⟨hbl2, d3⟩ := f j hjl wi hM.out.inv.fz
                  obtain ⟨kk, hkk⟩ : ∃ kk, Hid (t.getD j str0 = kk) := ⟨_, Lib.hid rfl⟩
                  rw [hkk.out] at d3
                  have hnx2 := Lib.hid (whJ_next (ts := gs) hnt hjl hkk)
                  have hm := whJ_len (t := t) (j := j) htl.out.2 ht60.out kk
                  rw [htl.out.1] at hm hnx2
                  obtain ⟨a, c, hlk, hoR, hhd⟩ := hM.out.look kk
                  have HHD := Lib.hid hhd
                  obtain ⟨L, hL⟩ : ∃ L, Hid (whJ gs t j kk = L) := ⟨_, Lib.hid rfl⟩
                  rw [hL.out] at hm hlk hoR hhd hnx2
                  have HOR := Lib.hid (hoR.alloc (.cells #[.int .i64 (k : Int)] 3)).drew
                  have HMD := Lib.hid ((hM.out.callB ((Below.refl _ _).alloc (Nat.le_refl _) (.cells #[.int .i64 (k : Int)] 3))).callB (bdrewN (Below.refl _ _) 1))
                  have hrl := hM.out.grp.lt
                  have hbl := hM.out.blk.lt
                  have c7 : wi.cell? ⟨bm, 7, none⟩ = some (.map (some r)) := hM.out.blk.cell 7
                  have c7A : (wi.alloc (.cells #[.int .i64 (k : Int)] 3)).cell? ⟨bm, 7, none⟩ = some (.map (some r)) := (hM.out.blk.alloc _).cell 7
                  have hlk0 : (Instr.lookup 57 (.map (some r)) (.string kk) false).run Try.prog wi.drew = .ok (.slice a L.length c) wi.drew := hlk _ rfl
                  have hlkA : (Instr.lookup 57 (.map (some r)) (.string kk) false).run Try.prog (wi.alloc (.cells #[.int .i64 (k : Int)] 3)).drew = .ok (.slice a L.length c) (wi.alloc (.cells #[.int .i64 (k : Int)] 3)).drew := hlk _ (heap_alloc_old _ _ hrl)
                  have hka : Hid (∀ b, a.map (·.block) = some b → b ≠ bm ∧ b ≠ r) := Lib.hid (fun b hb => by
                    rcases hhd with q | ⟨_, q, _⟩
                    · cases a with
                      | none => cases hb
                      | some x =>
                        have e : x.block = b := by simpa using hb
                        have := hM.out.grp.nm kk _ x q rfl
                        rw [e] at this
                        exact ⟨fun e2 => this.2 (.inl e2), this.1⟩
                    · rw [q] at hb; cases hb)
                  clear f hlk hoR hhd hM
                  go_wp2
                  apply wp_region_cut (S := fun W => ∃ hd', Hid (MchSt w2 φ1 φ4 bm (.slice an nn cn) (.slice a1 ns c1) (.slice a2 ne c2) (.slice a3 nr c3) (.slice (some ⟨b, off, none⟩) nx c4) (.pointer (some ⟨bt, 0, none⟩)) ta8 tc8 hs9 (gs ++ [t]) r hd' (whJ gs t (j + 1)) W))
                  case h1 =>
                    go_region_law ((refine step_appF (α := Int) (by rfl) _ _ _ (by rfl) slI HMD.out.inv a c _ (by rfl) HOR.out ⟨wi.heap.size, 0, none⟩ 1 [(k : Int)] [.int .i64 (k : Int)] 1 (by rfl) (by rfl) (RepL.single rfl) (new_cells wi #[.int .i64 (k : Int)] 3) (by show (L.length + 1) * 8 ≤ 140737488355328; omega) ?_; intro a5 c5 w5 hi5 ho5 hg5 hf5; obtain ⟨o5, hup, hM5⟩ := HMD.out.put (k := kk) HHD.out (n := L.length + 1) (by simp) hi5 ho5 hg5 hf5; have HM5 := Lib.hid hM5; have k7 : w5.cell? ⟨bm, 7, none⟩ = some (.map (some r)) := (far (hg5.block bm (Nat.lt_succ_of_lt hbl |> fun h => by simpa [World.drew] using h) (fun e => (hka.out bm e.symm).1 rfl))).1.trans c7A; have hup5 := hup w5 (hg5.block r (Nat.lt_succ_of_lt hrl |> fun h => by simpa [World.drew] using h) (fun e => (hka.out r e.symm).2 rfl)); clear hup hM5 hi5 ho5 hg5 hf5))
                    all_goals
                      go_wp2
                      exact onlyN_mk ⟨a5, c5, rfl, _, by rw [← hnx2.out]; exact HM5⟩
                  case h2 =>
                    intro x5 c5 W9 hM5
                    obtain ⟨hd5, HM5⟩ := hM5
                    go_wp2
                    go_roundw
                    case rel => exact ⟨j + 1, _, by omega, by go_num, HM5⟩
                    case measure => (simp [intOf] <;> omega)
                · obtain rfl : nt = j := by omega
                  have hM6 := hM
                  rw [whJ_all gs t hnt.out, ← hnext.out] at hM6
                  go_wp2
                  go_roundw
                  case rel => exact ⟨k + 1, φ4, ta8, tc8, hs9, hd9, by omega, by go_num, hM6⟩
                  case measure => (simp [intOf] <;> omega)
            · obtain rfl : nx = k := by omega
              go_wp2
              go_ret2
              exact ⟨(HI.out.callB hM.out.inv.bel).bel, .inr ⟨hF0.out, bm, rfl, ⟨HO.out, by omega, w2, φ1, φk, bt, m1, m2, ta, tc, hs, r, hd, HI.out, HT.out.callB hM.out.inv.bel, hM.out⟩⟩⟩
end Go.Proofs.Ytapkkplndhbapaa
