/- Rotations: the walks of Groups on both sides. Conditions: none beyond what the claim form gives. -/
import Derived.Test.YtafcecgcmaoakaaDoorW3
namespace Go.Proofs.YtafcecgcmaoakaaDoor
open Go.RowKit
set_option linter.unusedVariables false
/-- The groups of a wave, and the error. -/
def grpR (r : Rot) (wave : Int) : List Int × Int := if rotF r ≠ 0 then ([], rotF r) else if outB wave 1 1000 = true then ([], 1) else (grpK r wave wave.toNat, 0)
theorem rotF_ok {x y z : Int} (h : rotF (x, y, z) = 0) : RotOk (x, y, z) := by
  unfold rotF at h
  split at h
  · cases h
  · next hn =>
    simp only [Bool.or_eq_true, not_or] at hn
    obtain ⟨⟨h1, h2⟩, h3⟩ := hn
    have e1 := outB_false.1 (Bool.not_eq_true _ ▸ h1)
    have e2 := outB_false.1 (Bool.not_eq_true _ ▸ h2)
    have e3 := outB_false.1 (Bool.not_eq_true _ ▸ h3)
    exact ⟨e1.1, e1.2, e2.1, e2.2, e3.1, e3.2⟩
set_option maxHeartbeats 1000000 in
theorem Groups_any {x y z wave : Int} {w : World} {φ : Phi} (hφ : Fz φ w) :
    Calls Tryd.prog 13 #[.agg #[.int .i64 x, .int .i64 y, .int .i64 z], .int .i64 wave] w (SlPost (grpR (x, y, z) wave) φ w) := by
  obtain ⟨φ1, hle1, hi1, hb1⟩ := (Inv.start hφ).frz (.cells #[.int .i64 x, .int .i64 y, .int .i64 z] 41)
  have HB := Lib.hid hb1
  have HI1 := Lib.hid hi1
  clear hi1 hb1 hφ
  obtain ⟨F, hF⟩ : ∃ F, Hid (rotF (x, y, z) = F) := ⟨_, Lib.hid rfl⟩
  obtain ⟨bx, hbx⟩ : ∃ b, Hid (w.heap.size = b) := ⟨_, Lib.hid rfl⟩
  rw [hbx.out] at HB
  go_enter Tryd.func13, Tryd.ntmps13
  by_cases h0 : F = 0
  · subst h0
    obtain ⟨b, hb⟩ : ∃ b, Hid (outB wave 1 1000 = b) := ⟨_, Lib.hid rfl⟩
    cases b
    · have hw := outB_false.1 hb.out
      obtain ⟨hw1, hw2⟩ := hw
      have e : Hid (grpR (x, y, z) wave = (grpK (x, y, z) wave wave.toNat, 0)) := Lib.hid (by rw [grpR, if_neg (by rw [hF.out]; simp), if_neg (by rw [hb.out]; simp)])
      have hok := rotF_ok hF.out
      go_wp2_with (first
        | (go_at_call 15; rw [hbx.out]; refine (CheckRotation_any hF _).mono ?_; rintro e w2 ⟨rfl, hb2⟩; have HI2 := Lib.hid (HI1.out.callB hb2); have y0 : w2.cell? ⟨bx, 0, none⟩ = some (.int .i64 x) := box_cell HB.out φ1.le_refl HI2.out.fz 0; have y1 : w2.cell? ⟨bx, 1, none⟩ = some (.int .i64 y) := box_cell HB.out φ1.le_refl HI2.out.fz 1; have y2 : w2.cell? ⟨bx, 2, none⟩ = some (.int .i64 z) := box_cell HB.out φ1.le_refl HI2.out.fz 2)
        | (go_at_call 27; refine (sout_b hb.out _).mono ?_; rintro e w' ⟨rfl, rfl⟩)
        | (go_at_call 34; refine (groups_any hok (W := wave.toNat) (by omega) hw1 hw2 HI2.out.fz).mono ?_; rintro e w3 ⟨a3, c3, φ3, rfl, hi3, hs3⟩))
      go_ret2
      rw [e.out]
      exact ⟨a3, c3, φ3, rfl, HI2.out.call hi3, hs3⟩
    · have e : Hid (grpR (x, y, z) wave = ([], 1)) := Lib.hid (by rw [grpR, if_neg (by rw [hF.out]; simp), if_pos (by rw [hb.out])])
      go_wp2_with (first
        | (go_at_call 15; rw [hbx.out]; refine (CheckRotation_any hF _).mono ?_; rintro e w2 ⟨rfl, hb2⟩; have HI2 := Lib.hid (HI1.out.callB hb2); have y0 : w2.cell? ⟨bx, 0, none⟩ = some (.int .i64 x) := box_cell HB.out φ1.le_refl HI2.out.fz 0; have y1 : w2.cell? ⟨bx, 1, none⟩ = some (.int .i64 y) := box_cell HB.out φ1.le_refl HI2.out.fz 1; have y2 : w2.cell? ⟨bx, 2, none⟩ = some (.int .i64 z) := box_cell HB.out φ1.le_refl HI2.out.fz 2)
        | (go_at_call 27; refine (sout_b hb.out _).mono ?_; rintro e w' ⟨rfl, rfl⟩))
      go_ret2
      rw [e.out]
      exact ⟨none, 0, φ1, rfl, HI2.out, SlV.empty _⟩
  · have e : Hid (grpR (x, y, z) wave = ([], F)) := Lib.hid (by rw [grpR, hF.out, if_pos h0])
    have hg : ((F : Int) != 0) = true := by simp [h0]
    clear h0
    go_wp2_with (go_at_call 15; refine (CheckRotation_any hF _).mono ?_; rintro e w2 ⟨rfl, hb2⟩; have HI2 := Lib.hid (HI1.out.callB hb2))
    go_ret2
    rw [e.out]
    exact ⟨none, 0, φ1, rfl, HI2.out, SlV.empty _⟩
set_option maxHeartbeats 1000000 in
theorem RGroups_any {x y z wave : Int} {w : World} {φ : Phi} (hφ : Fz φ w) :
    Calls Tryd.prog 14 #[.agg #[.int .i64 x, .int .i64 y, .int .i64 z], .int .i64 wave] w (SlPost (grpR (x, y, z) wave) φ w) := by
  obtain ⟨φ1, hle1, hi1, hb1⟩ := (Inv.start hφ).frz (.cells #[.int .i64 x, .int .i64 y, .int .i64 z] 41)
  have HB := Lib.hid hb1
  have HI1 := Lib.hid hi1
  clear hi1 hb1 hφ
  obtain ⟨F, hF⟩ : ∃ F, Hid (rotF (x, y, z) = F) := ⟨_, Lib.hid rfl⟩
  obtain ⟨bx, hbx⟩ : ∃ b, Hid (w.heap.size = b) := ⟨_, Lib.hid rfl⟩
  rw [hbx.out] at HB
  go_enter Tryd.func14, Tryd.ntmps14
  by_cases h0 : F = 0
  · subst h0
    obtain ⟨b, hb⟩ : ∃ b, Hid (outB wave 1 1000 = b) := ⟨_, Lib.hid rfl⟩
    cases b
    · have hw := outB_false.1 hb.out
      obtain ⟨hw1, hw2⟩ := hw
      have e : Hid (grpR (x, y, z) wave = (grpK (x, y, z) wave wave.toNat, 0)) := Lib.hid (by rw [grpR, if_neg (by rw [hF.out]; simp), if_neg (by rw [hb.out]; simp)])
      have hok := rotF_ok hF.out
      go_wp2_with (first
        | (go_at_call 16; rw [hbx.out]; refine (RCheckRotation_any hF _).mono ?_; rintro e w2 ⟨rfl, hb2⟩; have HI2 := Lib.hid (HI1.out.callB hb2); have y0 : w2.cell? ⟨bx, 0, none⟩ = some (.int .i64 x) := box_cell HB.out φ1.le_refl HI2.out.fz 0; have y1 : w2.cell? ⟨bx, 1, none⟩ = some (.int .i64 y) := box_cell HB.out φ1.le_refl HI2.out.fz 1; have y2 : w2.cell? ⟨bx, 2, none⟩ = some (.int .i64 z) := box_cell HB.out φ1.le_refl HI2.out.fz 2)
        | (go_at_call 29; refine (sin_b (b := true) (by rw [hb.out]; rfl) _).mono ?_; rintro e w' ⟨rfl, rfl⟩)
        | (go_at_call 35; refine (Rgroups_any hok (W := wave.toNat) (by omega) hw2 HI2.out.fz).mono ?_; rintro e w3 ⟨a3, c3, φ3, rfl, hi3, hs3⟩))
      go_ret2
      rw [e.out]
      exact ⟨a3, c3, φ3, rfl, HI2.out.call hi3, hs3⟩
    · have e : Hid (grpR (x, y, z) wave = ([], 1)) := Lib.hid (by rw [grpR, if_neg (by rw [hF.out]; simp), if_pos (by rw [hb.out])])
      go_wp2_with (first
        | (go_at_call 16; rw [hbx.out]; refine (RCheckRotation_any hF _).mono ?_; rintro e w2 ⟨rfl, hb2⟩; have HI2 := Lib.hid (HI1.out.callB hb2); have y0 : w2.cell? ⟨bx, 0, none⟩ = some (.int .i64 x) := box_cell HB.out φ1.le_refl HI2.out.fz 0; have y1 : w2.cell? ⟨bx, 1, none⟩ = some (.int .i64 y) := box_cell HB.out φ1.le_refl HI2.out.fz 1; have y2 : w2.cell? ⟨bx, 2, none⟩ = some (.int .i64 z) := box_cell HB.out φ1.le_refl HI2.out.fz 2)
        | (go_at_call 29; refine (sin_b (b := false) (by rw [hb.out]; rfl) _).mono ?_; rintro e w' ⟨rfl, rfl⟩))
      go_ret2
      rw [e.out]
      exact ⟨none, 0, φ1, rfl, HI2.out, SlV.empty _⟩
  · have e : Hid (grpR (x, y, z) wave = ([], F)) := Lib.hid (by rw [grpR, hF.out, if_pos h0])
    have hg : ((F : Int) != 0) = true := by simp [h0]
    clear h0
    go_wp2_with (go_at_call 16; refine (RCheckRotation_any hF _).mono ?_; rintro e w2 ⟨rfl, hb2⟩; have HI2 := Lib.hid (HI1.out.callB hb2))
    go_ret2
    rw [e.out]
    exact ⟨none, 0, φ1, rfl, HI2.out, SlV.empty _⟩
end Go.Proofs.YtafcecgcmaoakaaDoor
