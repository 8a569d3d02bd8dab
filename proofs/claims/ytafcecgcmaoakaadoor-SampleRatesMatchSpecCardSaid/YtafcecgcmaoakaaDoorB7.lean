/- The reference's exact numbers: the walks of Part, Whole, Zero and Over. Conditions: none beyond what the claim form gives. -/
import Derived.Test.YtafcecgcmaoakaaDoorB6
import Derived.Deep.RegionHeld3
namespace Go.Proofs.YtafcecgcmaoakaaDoor
open Go.RowKit
set_option linter.unusedVariables false
/-- A call with a result's cell; φ1 is what was frozen at its start. -/
structure FsS (w0 : World) (φ0 φ1 φ : Phi) (b : Nat) (W : World) : Prop where
  rs : RsSt w0 φ0 φ b #[.bool false, .slice none 0 0, .slice none 0 0] 68 W
  le : φ1.le φ
section
variable {w0 W w' : World} {φ0 φ1 φ φ' : Phi} {b : Nat}
theorem FsS.call (h : FsS w0 φ0 φ1 φ b W) (hi : Inv W.heap.size W φ φ' w') : FsS w0 φ0 φ1 φ' b w' := ⟨h.rs.call hi, h.le.trans hi.le⟩
theorem FsS.callB (h : FsS w0 φ0 φ1 φ b W) (hb : Below W.heap.size W w') : FsS w0 φ0 φ1 φ b w' := ⟨h.rs.callB hb, h.le⟩
theorem FsS.fz (h : FsS w0 φ0 φ1 φ b W) : Fz φ W := h.rs.inv.fz
end
set_option maxHeartbeats 1000000 in
theorem RPart_any {a b : Nat} (ha : a < 9223372036854775808) (hb : b < 9223372036854775808) (hb0 : 0 < b) {w : World} {φ : Phi} (hφ : Fz φ w) :
    Calls Tryd.prog 32 #[.int .i64 (a : Int), .int .i64 (b : Int)] w (FrXP (mkRat a b) a b φ w) := by
  have hRS := Lib.hid (RsSt.start (Inv.start hφ) #[.bool false, .slice none 0 0, .slice none 0 0] 68)
  obtain ⟨q1, hq1⟩ : ∃ k, Hid ((limbs a).length = k) := ⟨_, Lib.hid rfl⟩
  obtain ⟨q2, hq2⟩ : ∃ k, Hid ((limbs b).length = k) := ⟨_, Lib.hid rfl⟩
  clear hφ
  go_enter Tryd.func32, Tryd.ntmps32
  go_wp2_with (first
    | (go_at_call 51; refine (Rsmall_any b hb _ φ2 H2.out.inv.fz).mono ?_; rintro e w3 ⟨a4, c4, φ3, rfl, hi3, hs3⟩; rw [hq2.out]; have H3 := Lib.hid (H2.out.call hi3); have SB := Lib.hid hs3; have SA3 := Lib.hid (SA.out.mono hi3.le); obtain ⟨y0, y1, y2, y3, y4, y5⟩ := H3.out.facts)
    | (go_at_call 51; refine (Rsmall_any a ha _ φ hRS.out.inv.fz).mono ?_; rintro e w2 ⟨a3, c3, φ2, rfl, hi2, hs2⟩; rw [hq1.out]; have H2 := Lib.hid (hRS.out.call hi2); have SA := Lib.hid hs2))
  have hIZ := Lib.hid (((H3.out.inv.setCell H3.out.l H3.out.f (off := 0) (Value.bool false)).setCell H3.out.l H3.out.f (off := 1) (Value.slice a3 q1 c3)).setCell H3.out.l H3.out.f (off := 2) (Value.slice a4 q2 c4))
  have hBZ := Lib.hid (((H3.out.k.set 0 (Value.bool false)).set 1 (Value.slice a3 q1 c3)).set 2 (Value.slice a4 q2 c4))
  have e0 : _ = some (Value.bool false) := hBZ.out.cell 0
  have e1 : _ = some (Value.slice a3 q1 c3) := hBZ.out.cell 1
  have e2 : _ = some (Value.slice a4 q2 c4) := hBZ.out.cell 2
  (try simp only [Exit.inBlock, Exit.then])
  refine bodyPost_ret (v := .agg #[(Value.bool false), (Value.slice a3 q1 c3), (Value.slice a4 q2 c4)]) (by simp [results, Tryd.results32, go_sem, e0, e1, e2]) rfl ?_
  exact ⟨_, φ3, rfl, hIZ.out, false, a, b, a3, c3, a4, c4, by rw [hq1.out, hq2.out], SA3.out, SB.out, hb0, Nat.le_refl _, Nat.le_refl _, rfl⟩
set_option maxHeartbeats 1000000 in
theorem RWhole_any {n : Int} (h0 : -9223372036854775808 < n) (h1 : n < 9223372036854775808) {w : World} {φ : Phi} (hφ : Fz φ w) :
    Calls Tryd.prog 30 #[.int .i64 n] w (FrXP (n : Rat) n.natAbs 1 φ w) := by
  have hRS := Lib.hid (RsSt.start (Inv.start hφ) #[.bool false, .slice none 0 0, .slice none 0 0] 68)
  obtain ⟨a, ha⟩ : ∃ a, n.natAbs = a := ⟨_, rfl⟩
  rw [ha]
  obtain ⟨q1, hq1⟩ : ∃ k, Hid ((limbs a).length = k) := ⟨_, Lib.hid rfl⟩
  have hq2 : Hid ((limbs 1).length = 1) := Lib.hid (by rw [limbs_one (by decide) (by decide)]; rfl)
  have hal : a < 9223372036854775808 := by omega
  clear hφ
  go_enter Tryd.func30, Tryd.ntmps30
  by_cases hneg : n < 0
  · have hna : Hid (-n = (a : Int)) := Lib.hid (by omega)
    have hx : Hid (rat true a 1 = (n : Rat)) := Lib.hid (by rw [rat_one]; congr 1; simp [sgn]; omega)
    clear ha
    go_wp2_with (first
      | (go_at_call 51; refine (Rsmall_any 1 (by omega) _ φ2 H2.out.inv.fz).mono ?_; rintro e w3 ⟨a4, c4, φ3, rfl, hi3, hs3⟩; rw [hq2.out]; have H3 := Lib.hid (H2.out.call hi3); have SB := Lib.hid hs3; have SA3 := Lib.hid (SA.out.mono hi3.le); obtain ⟨y0, y1, y2, y3, y4, y5⟩ := H3.out.facts)
      | (go_at_call 51; rw [hna.out]; refine (Rsmall_any a hal _ φ hRS.out.inv.fz).mono ?_; rintro e w2 ⟨a3, c3, φ2, rfl, hi2, hs2⟩; rw [hq1.out]; have H2 := Lib.hid (hRS.out.call hi2); have SA := Lib.hid hs2))
    have hIZ := Lib.hid (((H3.out.inv.setCell H3.out.l H3.out.f (off := 0) (Value.bool true)).setCell H3.out.l H3.out.f (off := 1) (Value.slice a3 q1 c3)).setCell H3.out.l H3.out.f (off := 2) (Value.slice a4 1 c4))
    have hBZ := Lib.hid (((H3.out.k.set 0 (Value.bool true)).set 1 (Value.slice a3 q1 c3)).set 2 (Value.slice a4 1 c4))
    have e0 : _ = some (Value.bool true) := hBZ.out.cell 0
    have e1 : _ = some (Value.slice a3 q1 c3) := hBZ.out.cell 1
    have e2 : _ = some (Value.slice a4 1 c4) := hBZ.out.cell 2
    (try simp only [Exit.inBlock, Exit.then])
    refine bodyPost_ret (v := .agg #[(Value.bool true), (Value.slice a3 q1 c3), (Value.slice a4 1 c4)]) (by simp [results, Tryd.results30, go_sem, e0, e1, e2]) rfl ?_
    exact ⟨_, φ3, rfl, hIZ.out, true, a, 1, a3, c3, a4, c4, by rw [hq1.out, hq2.out], SA3.out, SB.out, by decide, Nat.le_refl _, Nat.le_refl _, hx.out⟩
  · have hna : Hid (n = (a : Int)) := Lib.hid (by omega)
    have hx : Hid (rat false a 1 = (n : Rat)) := Lib.hid (by rw [rat_one]; congr 1; simp [sgn]; omega)
    clear ha
    go_wp2_with (first
      | (go_at_call 51; refine (Rsmall_any 1 (by omega) _ φ2 H2.out.inv.fz).mono ?_; rintro e w3 ⟨a4, c4, φ3, rfl, hi3, hs3⟩; rw [hq2.out]; have H3 := Lib.hid (H2.out.call hi3); have SB := Lib.hid hs3; have SA3 := Lib.hid (SA.out.mono hi3.le); obtain ⟨y0, y1, y2, y3, y4, y5⟩ := H3.out.facts)
      | (go_at_call 51; rw [hna.out]; refine (Rsmall_any a hal _ φ hRS.out.inv.fz).mono ?_; rintro e w2 ⟨a3, c3, φ2, rfl, hi2, hs2⟩; rw [hq1.out]; have H2 := Lib.hid (hRS.out.call hi2); have SA := Lib.hid hs2))
    have hIZ := Lib.hid (((H3.out.inv.setCell H3.out.l H3.out.f (off := 0) (Value.bool false)).setCell H3.out.l H3.out.f (off := 1) (Value.slice a3 q1 c3)).setCell H3.out.l H3.out.f (off := 2) (Value.slice a4 1 c4))
    have hBZ := Lib.hid (((H3.out.k.set 0 (Value.bool false)).set 1 (Value.slice a3 q1 c3)).set 2 (Value.slice a4 1 c4))
    have e0 : _ = some (Value.bool false) := hBZ.out.cell 0
    have e1 : _ = some (Value.slice a3 q1 c3) := hBZ.out.cell 1
    have e2 : _ = some (Value.slice a4 1 c4) := hBZ.out.cell 2
    (try simp only [Exit.inBlock, Exit.then])
    refine bodyPost_ret (v := .agg #[(Value.bool false), (Value.slice a3 q1 c3), (Value.slice a4 1 c4)]) (by simp [results, Tryd.results30, go_sem, e0, e1, e2]) rfl ?_
    exact ⟨_, φ3, rfl, hIZ.out, false, a, 1, a3, c3, a4, c4, by rw [hq1.out, hq2.out], SA3.out, SB.out, by decide, Nat.le_refl _, Nat.le_refl _, hx.out⟩
theorem RZero_any {v : Value} {x : Rat} {N D : Nat} {w : World} {φ : Phi} (hφ : Fz φ w) (h : FrX φ v x N D) {b : Bool} (hb : Hid (decide (x = 0) = b)) :
    Calls Tryd.prog 57 #[v] w (fun e w' => e = .returned (.bool b) ∧ Below w.heap.size w w') := by
  obtain ⟨neg, n, d, k1, k2, a1, c1, a2, c2, rfl, s1, s2, h1, h2, hd, hn, hnd, hx⟩ := h.open
  have HB := Lib.hid ((Below.refl w.heap.size w).alloc (Nat.le_refl _) (.cells #[.bool neg, .slice a1 k1 c1, .slice a2 k2 c2] 68))
  have hz := rat_zero_iff hd hx
  by_cases h0 : k1 = 0
  · have hb1 : Hid (b = true) := Lib.hid (by rw [← hb.out]; exact decide_eq_true (hz.2 (limbs_len0.1 (by rw [h1.out]; exact h0))))
    subst h0
    clear hz hx
    go_enter Tryd.func57, Tryd.ntmps57
    go_wp2
    go_ret
    exact ⟨ret_bool hb1.out.symm, HB.out⟩
  · have hb1 : Hid (b = false) := Lib.hid (by rw [← hb.out]; exact decide_eq_false (fun e => h0 (by rw [← h1.out, hz.1 e, limbs_zero]; rfl)))
    have h0i : ((k1 : Int) == 0) = false := by simp [h0]
    clear hz hx
    go_enter Tryd.func57, Tryd.ntmps57
    go_wp2
    go_ret
    exact ⟨ret_bool hb1.out.symm, HB.out⟩
end Go.Proofs.YtafcecgcmaoakaaDoor
