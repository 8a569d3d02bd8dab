/- Rotations: the walk of the program's Overlap. Conditions: the library's table of powers of ten reads as it was laid. -/
import Derived.Test.YtafcecgcmaoakaaDoorW4
import Derived.Test.YtafcecgcmaoakaaDoorP6
import Derived.Test.YtafcecgcmaoakaaDoorIdx
namespace Go.Proofs.YtafcecgcmaoakaaDoor
open Go.RowKit
set_option linter.unusedVariables false
/-- The part of a wave's groups that are in a later one, as texts, and the error. -/
def ovlR (r : Rot) (wave later : Int) : ByteArray × ByteArray × Int :=
  if rotF r ≠ 0 then (⟨#[]⟩, ⟨#[]⟩, rotF r) else if outB wave 1 later = true ∨ 1000 < later then (⟨#[]⟩, ⟨#[]⟩, 1)
  else ratR ((((cntW r later (grpK r wave wave.toNat) (grpK r wave wave.toNat).length : Nat) : Int) : Rat) / ((((grpK r wave wave.toNat).length : Nat) : Int) : Rat))
theorem grp_pos {r : Rot} (hr : RotOk r) {W : Nat} (hW : 1 ≤ W) : 0 < (grpK r (W : Int) W).length := by
  have : (W : Int) ∈ grpK r (W : Int) W := by
    rw [grpK_mem]
    refine ⟨by omega, Int.le_refl _, ?_⟩
    obtain ⟨a1, a2, _⟩ := hr
    simp only [inW, Bool.or_eq_true, Bool.and_eq_true, decide_eq_true_eq]
    left; omega
  exact List.length_pos_of_mem this
theorem div_one_h : Hid (DivOk 999999999) := Lib.hid div_one
theorem lenB_one : LenB 999999999 := by have := len_le1 (n := 999999999) (Nat.le_refl _); unfold LenB; omega
/-- A result's cell, while the groups are made. -/
structure OvS (w0 : World) (φ0 φ1 φ : Phi) (b : Nat) (W : World) : Prop where
  rs : RsSt w0 φ0 φ b #[.string ⟨#[]⟩, .string ⟨#[]⟩] 34 W
  le : φ1.le φ
section
variable {w0 W : World} {φ0 φ1 φ : Phi} {b : Nat}
theorem OvS.callB {w' : World} (h : OvS w0 φ0 φ1 φ b W) (hb : Below W.heap.size W w') : OvS w0 φ0 φ1 φ b w' := ⟨h.rs.callB hb, h.le⟩
theorem groups_S {x y z wave : Int} (hr : RotOk (x, y, z)) {V : Nat} (hV : (V : Int) = wave) (h1 : 1 ≤ wave) (h2 : wave ≤ 1000) {xs : List Int} {n : Nat} (hxs : Hid (grpK (x, y, z) wave V = xs)) (hn : Hid (xs.length = n)) (h : Hid (OvS w0 φ0 φ1 φ b W)) :
    Calls Tryd.prog 34 #[.agg #[.int .i64 x, .int .i64 y, .int .i64 z], .int .i64 wave] W (fun e w' => ∃ a c φ', e = .returned (.slice a n c) ∧ Hid (OvS w0 φ0 φ1 φ' b w') ∧ Hid (SlV φ' a c xs) ∧ Hid (φ.le φ')) := by
  refine (groups_any hr hV h1 h2 h.out.rs.inv.fz).mono ?_
  rintro e w' ⟨a, c, φ', rfl, hi, hs⟩
  rw [hxs.out] at hs ⊢
  exact ⟨a, c, φ', by rw [hn.out], Lib.hid ⟨h.out.rs.call hi, h.out.le.trans hi.le⟩, Lib.hid hs, Lib.hid hi.le⟩
end
set_option maxRecDepth 100000 in
set_option maxHeartbeats 2000000 in
theorem Overlap_any {x y z wave later : Int} {w : World} {φ : Phi} (hφ : Fz φ w) (hp : PowP φ) {S T : ByteArray} {F : Int} (hR : Hid (ovlR (x, y, z) wave later = (S, T, F))) :
    Calls Tryd.prog 18 #[.agg #[.int .i64 x, .int .i64 y, .int .i64 z], .int .i64 wave, .int .i64 later] w (fun e w' => e = .returned (.tuple #[.agg #[.string S, .string T], .int .i64 F]) ∧ Below w.heap.size w w') := by
  obtain ⟨φ1, hle1, hi1, hb1⟩ := (Inv.start hφ).frz (.cells #[.int .i64 x, .int .i64 y, .int .i64 z] 41)
  have hRS0 := RsSt.start hi1 #[.string ⟨#[]⟩, .string ⟨#[]⟩] 34
  rw [alloc_sz] at hRS0
  have HRS := Lib.hid hRS0
  have HB := Lib.hid hb1
  have HP := Lib.hid (hp.mono hle1)
  clear hi1 hb1 hφ hRS0 hp hle1
  obtain ⟨G, hG⟩ : ∃ F, Hid (rotF (x, y, z) = F) := ⟨_, Lib.hid rfl⟩
  obtain ⟨bx, hbx⟩ : ∃ b, w.heap.size = b := ⟨_, rfl⟩
  rw [hbx] at HB HRS
  have HBX := Lib.hid hbx
  go_enter Tryd.func18, Tryd.ntmps18
  go_wp2_with fail
  refine (CheckRotation_any hG _).mono ?_
  rintro e w2 ⟨rfl, hb2⟩
  have H2 := Lib.hid (HRS.out.callB hb2)
  clear hb2
  have r0 : w2.cell? ⟨bx + 1, 0, none⟩ = some (.string ⟨#[]⟩) := H2.out.k.cell 0
  have r1 : w2.cell? ⟨bx + 1, 1, none⟩ = some (.string ⟨#[]⟩) := H2.out.k.cell 1
  have r2 := H2.out.k.frz 0
  have r3 := H2.out.k.frz 1
  have y0 : w2.cell? ⟨bx, 0, none⟩ = some (.int .i64 x) := box_cell HB.out φ1.le_refl H2.out.inv.fz 0
  have y1 : w2.cell? ⟨bx, 1, none⟩ = some (.int .i64 y) := box_cell HB.out φ1.le_refl H2.out.inv.fz 1
  have y2 : w2.cell? ⟨bx, 2, none⟩ = some (.int .i64 z) := box_cell HB.out φ1.le_refl H2.out.inv.fz 2
  by_cases h0 : G = 0
  case neg =>
    have hg : ((G : Int) != 0) = true := by simp [h0]
    have hq : Hid (S = ⟨#[]⟩ ∧ T = ⟨#[]⟩ ∧ F = G) := Lib.hid (by
      have e := hR.out
      rw [ovlR, hG.out, if_pos h0] at e
      cases e; exact ⟨rfl, rfl, rfl⟩)
    clear h0
    go_wp2
    have hZ := Lib.hid ((H2.out.set 0 (.string ⟨#[]⟩)).set 1 (.string ⟨#[]⟩))
    have e0 : _ = some (Value.string ⟨#[]⟩) := hZ.out.k.cell 0
    have e1 : _ = some (Value.string ⟨#[]⟩) := hZ.out.k.cell 1
    (try simp only [Exit.inBlock, Exit.then])
    refine bodyPost_ret (v := .tuple #[.agg #[.string ⟨#[]⟩, .string ⟨#[]⟩], .int .i64 G]) (by simp [results, Tryd.results18, go_sem, e0, e1]) rfl ?_
    exact ⟨(by rw [hq.out.1, hq.out.2.1, hq.out.2.2]), hZ.out.inv.bel⟩
  subst h0
  obtain ⟨b, hb⟩ : ∃ b, Hid (outB wave 1 later = b) := ⟨_, Lib.hid rfl⟩
  cases b
  case true =>
    have hq : Hid (S = ⟨#[]⟩ ∧ T = ⟨#[]⟩ ∧ F = 1) := Lib.hid (by
      have e := hR.out
      rw [ovlR, hG.out, if_neg (by simp), if_pos (.inl hb.out)] at e
      cases e; exact ⟨rfl, rfl, rfl⟩)
    go_wp2_with (go_at_call 27; refine (sout_b hb.out _).mono ?_; rintro e w' ⟨rfl, rfl⟩)
    have hZ := Lib.hid ((H2.out.set 0 (.string ⟨#[]⟩)).set 1 (.string ⟨#[]⟩))
    have e0 : _ = some (Value.string ⟨#[]⟩) := hZ.out.k.cell 0
    have e1 : _ = some (Value.string ⟨#[]⟩) := hZ.out.k.cell 1
    (try simp only [Exit.inBlock, Exit.then])
    refine bodyPost_ret (v := .tuple #[.agg #[.string ⟨#[]⟩, .string ⟨#[]⟩], .int .i64 1]) (by simp [results, Tryd.results18, go_sem, e0, e1]) rfl ?_
    exact ⟨(by rw [hq.out.1, hq.out.2.1, hq.out.2.2]), hZ.out.inv.bel⟩
  by_cases hl : 1000 < later
  · have hq : Hid (S = ⟨#[]⟩ ∧ T = ⟨#[]⟩ ∧ F = 1) := Lib.hid (by
      have e := hR.out
      rw [ovlR, hG.out, if_neg (by simp), if_pos (.inr hl)] at e
      cases e; exact ⟨rfl, rfl, rfl⟩)
    go_wp2_with (go_at_call 27; refine (sout_b hb.out _).mono ?_; rintro e w' ⟨rfl, rfl⟩)
    have hZ := Lib.hid ((H2.out.set 0 (.string ⟨#[]⟩)).set 1 (.string ⟨#[]⟩))
    have e0 : _ = some (Value.string ⟨#[]⟩) := hZ.out.k.cell 0
    have e1 : _ = some (Value.string ⟨#[]⟩) := hZ.out.k.cell 1
    (try simp only [Exit.inBlock, Exit.then])
    refine bodyPost_ret (v := .tuple #[.agg #[.string ⟨#[]⟩, .string ⟨#[]⟩], .int .i64 1]) (by simp [results, Tryd.results18, go_sem, e0, e1]) rfl ?_
    exact ⟨(by rw [hq.out.1, hq.out.2.1, hq.out.2.2]), hZ.out.inv.bel⟩
  have hok := rotF_ok hG.out
  obtain ⟨hw1, hw2⟩ := outB_false.1 hb.out
  have hl2 : later ≤ 1000 := by omega
  have hw3 : wave ≤ 1000 := by omega
  have hl1 : 1 ≤ later := by omega
  have hWw : ((wave.toNat : Nat) : Int) = wave := by omega
  have hLl : ((later.toNat : Nat) : Int) = later := by omega
  obtain ⟨xs, hxs⟩ : ∃ l, Hid (grpK (x, y, z) wave wave.toNat = l) := ⟨_, Lib.hid rfl⟩
  obtain ⟨ys, hys⟩ : ∃ l, Hid (grpK (x, y, z) later later.toNat = l) := ⟨_, Lib.hid rfl⟩
  obtain ⟨n, hn⟩ : ∃ n, Hid (xs.length = n) := ⟨_, Lib.hid rfl⟩
  obtain ⟨m, hm⟩ : ∃ n, Hid (ys.length = n) := ⟨_, Lib.hid rfl⟩
  have hn1 : n ≤ 1000 := by have := grpK_len (x, y, z) wave wave.toNat; rw [hxs.out, hn.out] at this; omega
  have hm1 : m ≤ 1000 := by have := grpK_len (x, y, z) later later.toNat; rw [hys.out, hm.out] at this; omega
  have hnp : 0 < n := by
    have := grp_pos hok (W := wave.toNat) (by omega)
    rw [hWw, hxs.out, hn.out] at this; exact this
  have hmem : Hid (∀ k, k < n → ((xs.getD k 0 ∈ ys) ↔ inW (x, y, z) (xs.getD k 0) later = true)) := Lib.hid (fun k hk => by
    have hk' : k < xs.length := by rw [hn.out]; exact hk
    have := mem_later (r := (x, y, z)) hWw hLl hw2 (g := xs.getD k 0) (by rw [hxs.out, getD_elem0 _ _ _ hk']; exact List.getElem_mem _)
    rw [hys.out] at this; exact this)
  have hRR : Hid (ratR ((((cntW (x, y, z) later xs n : Nat) : Int) : Rat) / (((n : Nat) : Int) : Rat)) = (S, T, F)) := Lib.hid (by
    have e := hR.out
    rw [ovlR, hG.out, if_neg (by simp), if_neg (by rw [hb.out]; simp; omega), hxs.out, hn.out] at e
    exact e)
  have hcn := cntW_le (x, y, z) later xs n
  obtain rfl : F = 0 := (ratR_small (by omega) (by omega) (by omega) hRR.out).1
  clear hR
  go_wp2_with (go_at_call 27; refine (sout_b hb.out _).mono ?_; rintro e w' ⟨rfl, rfl⟩)
  have hO : Hid (OvS w φ φ1 φ1 (bx + 1) w2.drew) := Lib.hid ⟨H2.out.callB (bdrewN (Below.refl _ _) 1), φ1.le_refl⟩
  have hbox := Lib.hid (fun (φ3 : Phi) (W : World) (h : Hid (OvS w φ φ1 φ3 (bx + 1) W)) => And.intro (box_cell HB.out h.out.le h.out.rs.inv.fz 0) (And.intro (box_cell HB.out h.out.le h.out.rs.inv.fz 1) (box_cell HB.out h.out.le h.out.rs.inv.fz 2)))
  clear r0 r1 r2 r3
  go_region_held3 (fun w' => w'.cell? ⟨bx, 0, none⟩ = some (.int .i64 x) ∧ w'.cell? ⟨bx, 1, none⟩ = some (.int .i64 y) ∧ w'.cell? ⟨bx, 2, none⟩ = some (.int .i64 z)) (first | exact ⟨y0, y1, y2⟩ | exact ⟨by assumption, by assumption, by assumption⟩) (first
    | ((with_reducible refine (groups_S hok hWw hw1 hw3 hxs hn (by assumption)).mono ?_); rintro e w3 ⟨a5, c5, φ5, rfl, hX5, hs5, hl5⟩; obtain ⟨u0, u1, u2⟩ := hbox.out _ _ hX5)
    | ((with_reducible refine (groups_S hok hLl hl1 hl2 hys hm (by assumption)).mono ?_); rintro e w4 ⟨a6, c6, φ6, rfl, hX6, hs6, hl6⟩; obtain ⟨u0, u1, u2⟩ := hbox.out _ _ hX6))
  have HS5 := Lib.hid (hs5.out.mono hl6.out)
  have HS6 := Lib.hid hs6.out
  have HO6 := Lib.hid hX6.out
  have HP6 := Lib.hid (HP.out.mono hX6.out.le)
  clear hX5 hs5 hl5 hX6 hs6 hl6 u0 u1 u2 hO y0 y1 y2
  go_wp2
  go_loopw [11, 13, 36] (fun nv gv iv wr => ∃ (k c : Nat), k ≤ n ∧ c ≤ k ∧ nv = .int .i64 (c : Int) ∧ iv = .int .i64 (k : Int) ∧ Hid (cntW (x, y, z) later xs k = c) ∧ Hid (OvS w φ φ1 φ6 (bx + 1) wr)) (fun _ _ iv _ => n - (intOf iv).toNat)
  case atStart => exact ⟨0, 0, Nat.zero_le _, Nat.le_refl _, rfl, rfl, Lib.hid rfl, HO6⟩
  case round =>
    clear HO6
    obtain ⟨k, c, hk, hck, rfl, rfl, hc, hO⟩ := hrel
    by_cases hlt : k < n
    · obtain ⟨b, off, rfl, f⟩ := HS5.out.intsD hn hlt
      obtain ⟨_, d1⟩ := f k hlt wr hO.out.rs.inv.fz
      have hmk := hmem.out k hlt
      have hnx : Hid (cntW (x, y, z) later xs (k + 1) = c + (if inW (x, y, z) (xs.getD k 0) later then 1 else 0)) := Lib.hid (by rw [cntW, hc.out])
      generalize xs.getD k 0 = g at *
      have hil : (k : Int) < (n : Int) := by omega
      clear f
      by_cases hin : g ∈ ys
      · have HIN := Lib.hid hin
        have hnx2 : Hid (cntW (x, y, z) later xs (k + 1) = c + 1) := Lib.hid (by rw [hnx.out, if_pos (hmk.1 hin)])
        clear hmk hin hnx
        go_wp2_with (go_at_call 36; refine (Contains_t m a6 c6 ys g _ φ6 hO.out.rs.inv.fz HS6.out hm (by omega) HIN.out).mono ?_; rintro e w' ⟨rfl, rfl⟩)
        go_roundw
        case rel => exact ⟨k + 1, c + 1, by omega, by omega, by go_num, by go_num, hnx2, hO⟩
        case measure => simp [intOf]; omega
      · have HIN := Lib.hid hin
        have hnx2 : Hid (cntW (x, y, z) later xs (k + 1) = c) := Lib.hid (by rw [hnx.out, if_neg (fun e => hin (hmk.2 e))]; rfl)
        clear hmk hin hnx
        go_wp2_with (go_at_call 36; refine (Contains_f m a6 c6 ys g _ φ6 hO.out.rs.inv.fz HS6.out hm (by omega) HIN.out).mono ?_; rintro e w' ⟨rfl, rfl⟩)
        go_roundw
        case rel => exact ⟨k + 1, c, by omega, by omega, rfl, by go_num, hnx2, hO⟩
        case measure => simp [intOf]; omega
    · obtain rfl : k = n := by omega
      have hcc := hc.out
      have hR3 : Hid (ratR ((((c : Nat) : Int) : Rat) / (((k : Nat) : Int) : Rat)) = (S, T, 0)) := Lib.hid (by rw [← hcc]; exact hRR.out)
      clear hcc
      go_wp2_with (go_at_call 37; refine (fraction_any div_one_h lenB_one (by omega) (by omega) (by omega) (by omega) (by omega) (by omega) (by omega) hO.out.rs.inv.fz HP6.out hR3).mono ?_; rintro e w9 ⟨rfl, hb9⟩; have H9 := Lib.hid (hO.out.rs.callB hb9); clear hb9; have r0 : w9.cell? ⟨bx + 1, 0, none⟩ = some (.string ⟨#[]⟩) := H9.out.k.cell 0; have r1 : w9.cell? ⟨bx + 1, 1, none⟩ = some (.string ⟨#[]⟩) := H9.out.k.cell 1; have r2 := H9.out.k.frz 0; have r3 := H9.out.k.frz 1)
      have hZ := Lib.hid ((H9.out.set 0 (.string S)).set 1 (.string T))
      have e0 : _ = some (Value.string S) := hZ.out.k.cell 0
      have e1 : _ = some (Value.string T) := hZ.out.k.cell 1
      (try simp only [Exit.inBlock, Exit.then])
      refine bodyPost_ret (v := .tuple #[.agg #[.string S, .string T], .int .i64 0]) (by simp [results, Tryd.results18, go_sem, e0, e1]) rfl ?_
      exact ⟨rfl, hZ.out.inv.bel⟩
end Go.Proofs.YtafcecgcmaoakaaDoor
