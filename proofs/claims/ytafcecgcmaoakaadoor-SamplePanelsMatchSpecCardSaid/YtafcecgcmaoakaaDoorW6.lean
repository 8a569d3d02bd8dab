/- Rotations: the walk of the reference's Overlap. Conditions: the library's table of powers of ten reads as it was laid. -/
import Derived.Test.YtafcecgcmaoakaaDoorW5
import Derived.Test.YtafcecgcmaoakaaDoorB10
namespace Go.Proofs.YtafcecgcmaoakaaDoor
open Go.RowKit
set_option linter.unusedVariables false
theorem Rdiv_one_h : Hid (RdivOk 999999999) := Lib.hid Rdiv_one
set_option maxRecDepth 100000 in
set_option maxHeartbeats 2000000 in
theorem ROverlap_any {x y z wave later : Int} {w : World} {φ : Phi} (hφ : Fz φ w) (hp : PowP φ) {S T : ByteArray} {F : Int} (hR : Hid (ovlR (x, y, z) wave later = (S, T, F))) :
    Calls Tryd.prog 19 #[.agg #[.int .i64 x, .int .i64 y, .int .i64 z], .int .i64 wave, .int .i64 later] w (fun e w' => e = .returned (.tuple #[.agg #[.string S, .string T], .int .i64 F]) ∧ Below w.heap.size w w') := by
  obtain ⟨φ1, hle1, hi1, hb1⟩ := (Inv.start hφ).frz (.cells #[.int .i64 x, .int .i64 y, .int .i64 z] 41)
  have hRS0 := RsSt.start hi1 #[.string ⟨#[]⟩, .string ⟨#[]⟩] 34
  rw [alloc_sz] at hRS0
  have HRS := Lib.hid hRS0
  have HB := Lib.hid hb1
  have HP := Lib.hid (hp.mono hle1)
  clear hi1 hb1 hφ hRS0 hp hle1
  obtain ⟨G, hG⟩ : ∃ F, Hid (rotF (x, y, z) = F) := ⟨_, Lib.hid rfl⟩
  obtain ⟨bx, hbx⟩ : ∃ b, w.heap.size = b := ⟨_, rfl⟩
  rw [hbx] at HB HRS
  have HBX := Lib.hid hbx
  go_enter Tryd.func19, Tryd.ntmps19
  go_wp2_with fail
  refine (RCheckRotation_any hG _).mono ?_
  rintro e w2 ⟨rfl, hb2⟩
  have H2 := Lib.hid (HRS.out.callB hb2)
  clear hb2
  have r0 : w2.cell? ⟨bx + 1, 0, none⟩ = some (.string ⟨#[]⟩) := H2.out.k.cell 0
  have r1 : w2.cell? ⟨bx + 1, 1, none⟩ = some (.string ⟨#[]⟩) := H2.out.k.cell 1
  have r2 := H2.out.k.frz 0
  have r3 := H2.out.k.frz 1
  have y0 : w2.cell? ⟨bx, 0, none⟩ = some (.int .i64 x) := box_cell HB.out φ1.le_refl H2.out.inv.fz 0
  have y1 : w2.cell? ⟨bx, 1, none⟩ = some (.int .i64 y) := box_cell HB.out φ1.le_refl H2.out.inv.fz 1
  have y2 : w2.cell? ⟨bx, 2, none⟩ = some (.int .i64 z) := box_cell HB.out φ1.le_refl H2.out.inv.fz 2
  by_cases h0 : G = 0
  case neg =>
    have hg : ((G : Int) != 0) = true := by simp [h0]
    have hq : Hid (S = ⟨#[]⟩ ∧ T = ⟨#[]⟩ ∧ F = G) := Lib.hid (by
      have e := hR.out
      rw [ovlR, hG.out, if_pos h0] at e
      cases e; exact ⟨rfl, rfl, rfl⟩)
    clear h0
    go_wp2
    have hZ := Lib.hid ((H2.out.set 0 (.string ⟨#[]⟩)).set 1 (.string ⟨#[]⟩))
    have e0 : _ = some (Value.string ⟨#[]⟩) := hZ.out.k.cell 0
    have e1 : _ = some (Value.string ⟨#[]⟩) := hZ.out.k.cell 1
    (try simp only [Exit.inBlock, Exit.then])
    refine bodyPost_ret (v := .tuple #[.agg #[.string ⟨#[]⟩, .string ⟨#[]⟩], .int .i64 G]) (by simp [results, Tryd.results19, go_sem, e0, e1]) rfl ?_
    exact ⟨(by rw [hq.out.1, hq.out.2.1, hq.out.2.2]), hZ.out.inv.bel⟩
  subst h0
  obtain ⟨b, hb⟩ : ∃ b, Hid (outB wave 1 later = b) := ⟨_, Lib.hid rfl⟩
  cases b
  case true =>
    have hq : Hid (S = ⟨#[]⟩ ∧ T = ⟨#[]⟩ ∧ F = 1) := Lib.hid (by
      have e := hR.out
      rw [ovlR, hG.out, if_neg (by simp), if_pos (.inl hb.out)] at e
      cases e; exact ⟨rfl, rfl, rfl⟩)
    have hbo := outB_true.1 hb.out
    by_cases hbo1 : wave < 1
    · clear hbo
      go_wp2
      have hZ := Lib.hid ((H2.out.set 0 (.string ⟨#[]⟩)).set 1 (.string ⟨#[]⟩))
      have e0 : _ = some (Value.string ⟨#[]⟩) := hZ.out.k.cell 0
      have e1 : _ = some (Value.string ⟨#[]⟩) := hZ.out.k.cell 1
      (try simp only [Exit.inBlock, Exit.then])
      refine bodyPost_ret (v := .tuple #[.agg #[.string ⟨#[]⟩, .string ⟨#[]⟩], .int .i64 1]) (by simp [results, Tryd.results19, go_sem, e0, e1]) rfl ?_
      exact ⟨(by rw [hq.out.1, hq.out.2.1, hq.out.2.2]), hZ.out.inv.bel⟩
    · have hbo2 : later < wave := by omega
      clear hbo
      go_wp2
      have hZ := Lib.hid ((H2.out.set 0 (.string ⟨#[]⟩)).set 1 (.string ⟨#[]⟩))
      have e0 : _ = some (Value.string ⟨#[]⟩) := hZ.out.k.cell 0
      have e1 : _ = some (Value.string ⟨#[]⟩) := hZ.out.k.cell 1
      (try simp only [Exit.inBlock, Exit.then])
      refine bodyPost_ret (v := .tuple #[.agg #[.string ⟨#[]⟩, .string ⟨#[]⟩], .int .i64 1]) (by simp [results, Tryd.results19, go_sem, e0, e1]) rfl ?_
      exact ⟨(by rw [hq.out.1, hq.out.2.1, hq.out.2.2]), hZ.out.inv.bel⟩
  obtain ⟨hw1, hw2⟩ := outB_false.1 hb.out
  have hw1n : ¬ wave < 1 := by omega
  have hw2n : ¬ later < wave := by omega
  by_cases hl : 1000 < later
  · have hq : Hid (S = ⟨#[]⟩ ∧ T = ⟨#[]⟩ ∧ F = 1) := Lib.hid (by
      have e := hR.out
      rw [ovlR, hG.out, if_neg (by simp), if_pos (.inr hl)] at e
      cases e; exact ⟨rfl, rfl, rfl⟩)
    go_wp2
    have hZ := Lib.hid ((H2.out.set 0 (.string ⟨#[]⟩)).set 1 (.string ⟨#[]⟩))
    have e0 : _ = some (Value.string ⟨#[]⟩) := hZ.out.k.cell 0
    have e1 : _ = some (Value.string ⟨#[]⟩) := hZ.out.k.cell 1
    (try simp only [Exit.inBlock, Exit.then])
    refine bodyPost_ret (v := .tuple #[.agg #[.string ⟨#[]⟩, .string ⟨#[]⟩], .int .i64 1]) (by simp [results, Tryd.results19, go_sem, e0, e1]) rfl ?_
    exact ⟨(by rw [hq.out.1, hq.out.2.1, hq.out.2.2]), hZ.out.inv.bel⟩
  have hok := rotF_ok hG.out
  have hl2 : later ≤ 1000 := by omega
  have hw3 : wave ≤ 1000 := by omega
  have hl1 : 1 ≤ later := by omega
  have hWw : ((wave.toNat : Nat) : Int) = wave := by omega
  have hLl : ((later.toNat : Nat) : Int) = later := by omega
  obtain ⟨xs, hxs⟩ : ∃ l, Hid (grpK (x, y, z) wave wave.toNat = l) := ⟨_, Lib.hid rfl⟩
  obtain ⟨n, hn⟩ : ∃ n, Hid (xs.length = n) := ⟨_, Lib.hid rfl⟩
  have hn1 : n ≤ 1000 := by have := grpK_len (x, y, z) wave wave.toNat; rw [hxs.out, hn.out] at this; omega
  have hnp : 0 < n := by
    have := grp_pos hok (W := wave.toNat) (by omega)
    rw [hWw, hxs.out, hn.out] at this; exact this
  have hmem : Hid (∀ k, k < n → 0 ≤ xs.getD k 0 ∧ xs.getD k 0 ≤ 1000) := Lib.hid (fun k hk => by
    have hk' : k < xs.length := by rw [hn.out]; exact hk
    have : xs.getD k 0 ∈ grpK (x, y, z) wave wave.toNat := by rw [hxs.out, getD_elem0 _ _ _ hk']; exact List.getElem_mem _
    have := (grpK_mem _ _ _ _).1 this
    omega)
  have hRR : Hid (ratR ((((cntW (x, y, z) later xs n : Nat) : Int) : Rat) / (((n : Nat) : Int) : Rat)) = (S, T, F)) := Lib.hid (by
    have e := hR.out
    rw [ovlR, hG.out, if_neg (by simp), if_neg (by rw [hb.out]; simp; omega), hxs.out, hn.out] at e
    exact e)
  have hcn := cntW_le (x, y, z) later xs n
  clear hR
  have hO2 : Hid (OvS w φ φ1 φ1 (bx + 1) w2) := Lib.hid ⟨H2.out, φ1.le_refl⟩
  have hbox := Lib.hid (fun (φ3 : Phi) (W : World) (h : Hid (OvS w φ φ1 φ3 (bx + 1) W)) => And.intro (box_cell HB.out h.out.le h.out.rs.inv.fz 0) (And.intro (box_cell HB.out h.out.le h.out.rs.inv.fz 1) (box_cell HB.out h.out.le h.out.rs.inv.fz 2)))
  clear r0 r1 r2 r3
  go_wp2_with (go_at_call 35; refine (Rgroups_any hok hWw hw3 H2.out.inv.fz).mono ?_; rintro e w3 ⟨a5, c5, φ6, rfl, hi5, hs5⟩; rw [hxs.out, hn.out]; have HO6 : Hid (OvS w φ φ1 φ6 (bx + 1) w3) := Lib.hid ⟨H2.out.call hi5, hi5.le⟩; have HS5 := Lib.hid hs5; have HP6 := Lib.hid (HP.out.mono hi5.le); clear hi5 hs5)
  rw [hxs.out] at HS5
  go_loopw [9, 12, 36] (fun nv gv iv wr => ∃ (k c : Nat), k ≤ n ∧ c ≤ k ∧ nv = .int .i64 (c : Int) ∧ iv = .int .i64 (k : Int) ∧ Hid (cntW (x, y, z) later xs k = c) ∧ Hid (OvS w φ φ1 φ6 (bx + 1) wr)) (fun _ _ iv _ => n - (intOf iv).toNat)
  case atStart => exact ⟨0, 0, Nat.zero_le _, Nat.le_refl _, rfl, rfl, Lib.hid rfl, HO6⟩
  case round =>
    clear HO6
    obtain ⟨k, c, hk, hck, rfl, rfl, hc, hO⟩ := hrel
    by_cases hlt : k < n
    · obtain ⟨b, off, rfl, f⟩ := HS5.out.intsD hn hlt
      obtain ⟨_, d1⟩ := f k hlt wr hO.out.rs.inv.fz
      obtain ⟨hg0, hg1⟩ := hmem.out k hlt
      obtain ⟨y0, y1, y2⟩ := hbox.out _ _ hO
      have hnx : Hid (cntW (x, y, z) later xs (k + 1) = c + (if inW (x, y, z) (xs.getD k 0) later then 1 else 0)) := Lib.hid (by rw [cntW, hc.out])
      generalize xs.getD k 0 = g at *
      have hil : (k : Int) < (n : Int) := by omega
      clear f
      obtain ⟨q, hqq⟩ : ∃ q, Hid (inW (x, y, z) g later = q) := ⟨_, Lib.hid rfl⟩
      cases q
      · have hnx2 : Hid (cntW (x, y, z) later xs (k + 1) = c) := Lib.hid (by rw [hnx.out, hqq.out]; rfl)
        clear hnx
        go_wp2_with (go_at_call 38; refine (isIn_any hok ⟨hg0, hg1⟩ ⟨by omega, hl2⟩ hqq _).mono ?_; rintro e w' ⟨rfl, hb4⟩; have hO4 := Lib.hid (hO.out.callB hb4); clear hb4)
        go_roundw
        case rel => exact ⟨k + 1, c, by omega, by omega, rfl, by go_num, hnx2, hO4⟩
        case measure => simp [intOf]; omega
      · have hnx2 : Hid (cntW (x, y, z) later xs (k + 1) = c + 1) := Lib.hid (by rw [hnx.out, hqq.out]; rfl)
        clear hnx
        go_wp2_with (go_at_call 38; refine (isIn_any hok ⟨hg0, hg1⟩ ⟨by omega, hl2⟩ hqq _).mono ?_; rintro e w' ⟨rfl, hb4⟩; have hO4 := Lib.hid (hO.out.callB hb4); clear hb4)
        go_roundw
        case rel => exact ⟨k + 1, c + 1, by omega, by omega, by go_num, by go_num, hnx2, hO4⟩
        case measure => simp [intOf]; omega
    · obtain rfl : k = n := by omega
      have hcc := hc.out
      have hR3 : Hid (ratR ((((c : Nat) : Int) : Rat) / (((k : Nat) : Int) : Rat)) = (S, T, F)) := Lib.hid (by rw [← hcc]; exact hRR.out)
      clear hcc
      have hR4 : Hid (ratR (mkRat (c : Int) k) = (S, T, F)) := Lib.hid (by
        have e := hR3.out
        rw [Rat.mkRat_eq_div]
        exact e)
      go_wp2_with (first
        | (go_at_call 32; refine (RPart_any (a := c) (b := k) (by omega) (by omega) hnp hO.out.rs.inv.fz).mono ?_; rintro e w8 ⟨v8, φ8, rfl, hi8, hv8⟩; have H8 := Lib.hid (hO.out.rs.call hi8); have HV8 := Lib.hid hv8; have HP8 := Lib.hid (HP6.out.mono hi8.le); clear hi8 hv8)
        | (go_at_call 39; refine (RRatio_any Rdiv_one_h lenB_one H8.out.inv.fz HP8.out HV8.out (by omega) (by omega) hR4).mono ?_; rintro e w9 ⟨rfl, hb9⟩; have H9 := Lib.hid (H8.out.callB hb9); clear hb9; have r0 : w9.cell? ⟨bx + 1, 0, none⟩ = some (.string ⟨#[]⟩) := H9.out.k.cell 0; have r1 : w9.cell? ⟨bx + 1, 1, none⟩ = some (.string ⟨#[]⟩) := H9.out.k.cell 1; have r2 := H9.out.k.frz 0; have r3 := H9.out.k.frz 1))
      have hZ := Lib.hid ((H9.out.set 0 (.string S)).set 1 (.string T))
      have e0 : _ = some (Value.string S) := hZ.out.k.cell 0
      have e1 : _ = some (Value.string T) := hZ.out.k.cell 1
      (try simp only [Exit.inBlock, Exit.then])
      refine bodyPost_ret (v := .tuple #[.agg #[.string S, .string T], .int .i64 F]) (by simp [results, Tryd.results19, go_sem, e0, e1]) rfl ?_
      exact ⟨rfl, hZ.out.inv.bel⟩
end Go.Proofs.YtafcecgcmaoakaaDoor
