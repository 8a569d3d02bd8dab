/- The law SamplePanelsMatchSpec's walk. Conditions: the library's table of powers of ten reads as it was laid. -/
import Derived.Test.YtafcecgcmaoakaaDoorW6
namespace Go.Proofs.YtafcecgcmaoakaaDoor
open Go.RowKit
set_option linter.unusedVariables false
set_option maxHeartbeats 1000000 in
theorem EqualI_same (n1 : Nat) (a1 : Option Addr) (c1 : Nat) (xs : List Int) (a2 : Option Addr) (c2 : Nat) (w : World) (φ : Phi) (hφ : Fz φ w) (s1 : SlV φ a1 c1 xs) (hn1 : Hid (xs.length = n1)) (hm1 : n1 ≤ 9223372036854775807) (s2 : SlV φ a2 c2 xs) :
    Calls Tryd.prog 17 #[.slice a1 n1 c1, .slice a2 n1 c2] w (fun e w' => e = .returned (.bool true) ∧ Below w.heap.size w w') := by
  have hb1 : ((n1 : Int) != n1) = false := by simp
  go_enter Tryd.func17, Tryd.ntmps17
  go_wp2
  clear hb1
  go_loopw [13] (fun i wr => ∃ k : Nat, k ≤ n1 ∧ i = .int .i64 k ∧ Hid (Below w.heap.size w wr)) (fun i _ => n1 - (intOf i).toNat)
  case atStart => exact ⟨0, Nat.zero_le _, rfl, Lib.hid (Below.refl _ _)⟩
  case round =>
    obtain ⟨k, hk, rfl, hB⟩ := hrel
    by_cases hlt : k < n1
    · obtain ⟨b1, o1, rfl, f1⟩ := s1.intsD hn1 hlt
      have d1 := (f1 k hlt wr (hφ.below hB.out)).2
      obtain ⟨b2, o2, rfl, f2⟩ := s2.intsD hn1 hlt
      have d2 := (f2 k hlt wr (hφ.below hB.out)).2
      clear f1 f2
      generalize xs.getD k 0 = x at *
      have hne : (x != x) = false := by simp
      go_wp2
      go_quiet (fail)
      go_wp2
      go_roundw
      case rel => exact ⟨k + 1, by omega, by go_num, Lib.hid (bdrewN hB.out _)⟩
      case measure => (simp [intOf] <;> omega)
    · obtain rfl : k = n1 := by omega
      go_wp2
      go_ret
      exact ⟨rfl, hB.out⟩

section
variable {w0 W : World} {φ0 φ : Phi}
theorem CheckRot_S {x y z F : Int} (hF : Hid (rotF (x, y, z) = F)) (h : Hid (Inv w0.heap.size w0 φ0 φ W)) :
    Calls Tryd.prog 15 #[.agg #[.int .i64 x, .int .i64 y, .int .i64 z]] W (fun e w' => e = .returned (.int .i64 F) ∧ Hid (Inv w0.heap.size w0 φ0 φ w')) := by
  refine (CheckRotation_any hF W).mono ?_
  rintro e w' ⟨rfl, hb⟩
  exact ⟨rfl, Lib.hid (h.out.callB hb)⟩
theorem RCheckRot_S {x y z F : Int} (hF : Hid (rotF (x, y, z) = F)) (h : Hid (Inv w0.heap.size w0 φ0 φ W)) :
    Calls Tryd.prog 16 #[.agg #[.int .i64 x, .int .i64 y, .int .i64 z]] W (fun e w' => e = .returned (.int .i64 F) ∧ Hid (Inv w0.heap.size w0 φ0 φ w')) := by
  refine (RCheckRotation_any hF W).mono ?_
  rintro e w' ⟨rfl, hb⟩
  exact ⟨rfl, Lib.hid (h.out.callB hb)⟩
theorem Equal_S {n1 : Nat} {a1 a2 : Option Addr} {c1 c2 : Nat} {xs : List Int} (s1 : Hid (SlV φ a1 c1 xs)) (hn1 : Hid (xs.length = n1)) (hm1 : n1 ≤ 9223372036854775807) (s2 : Hid (SlV φ a2 c2 xs)) (h : Hid (Inv w0.heap.size w0 φ0 φ W)) :
    Calls Tryd.prog 17 #[.slice a1 n1 c1, .slice a2 n1 c2] W (fun e w' => e = .returned (.bool true) ∧ Hid (Inv w0.heap.size w0 φ0 φ w')) := by
  refine (EqualI_same n1 a1 c1 xs a2 c2 W φ h.out.fz s1.out hn1 hm1 s2.out).mono ?_
  rintro e w' ⟨rfl, hb⟩
  exact ⟨rfl, Lib.hid (h.out.callB hb)⟩
end
set_option maxRecDepth 100000 in
set_option maxHeartbeats 2000000 in
theorem panels_core {x y z wave later : Int} {w : World} {φ : Phi} (hφ : Fz φ w) (hp : PowP φ) :
    Calls Tryd.prog 5 #[.agg #[.int .i64 x, .int .i64 y, .int .i64 z], .int .i64 wave, .int .i64 later] w (fun e w' => e = .returned (.bool true) ∧ Below w.heap.size w w') := by
  obtain ⟨φ1, hle1, hi1, hb1⟩ := (Inv.start hφ).frz (.cells #[.int .i64 x, .int .i64 y, .int .i64 z] 41)
  have HI1 := Lib.hid hi1
  have HB := Lib.hid hb1
  have HP := Lib.hid (hp.mono hle1)
  clear hi1 hb1 hφ hp hle1
  obtain ⟨F, hF⟩ : ∃ F, Hid (rotF (x, y, z) = F) := ⟨_, Lib.hid rfl⟩
  obtain ⟨xs, G, hG⟩ : ∃ xs G, Hid (grpR (x, y, z) wave = (xs, G)) := ⟨_, _, Lib.hid rfl⟩
  obtain ⟨S, T, K, hK⟩ : ∃ S T K, Hid (ovlR (x, y, z) wave later = (S, T, K)) := ⟨_, _, _, Lib.hid rfl⟩
  obtain ⟨n, hn⟩ : ∃ n, Hid (xs.length = n) := ⟨_, Lib.hid rfl⟩
  have hn1 : n ≤ 1000 := by
    have e := hG.out
    rw [← hn.out]
    unfold grpR at e
    split at e
    · cases e; simp
    · split at e
      · cases e; simp
      · next h2 =>
        have := outB_false.1 (Bool.not_eq_true _ ▸ h2)
        cases e
        have := grpK_len (x, y, z) wave wave.toNat
        omega
  have gF : (F != F) = false := by simp
  have gG : (G != G) = false := by simp
  have gK : (K == K) = true := by simp
  have gS : (S.toList == S.toList) = true := str_eq_t rfl
  have gT : (T.toList == T.toList) = true := str_eq_t rfl
  obtain ⟨bx, hbx⟩ : ∃ b, w.heap.size = b := ⟨_, rfl⟩
  have HBX := Lib.hid hbx
  rw [hbx] at HB
  have hbox := Lib.hid (fun (φ3 : Phi) (W : World) (hl : φ1.le φ3) (h : Fz φ3 W) => And.intro (box_cell HB.out hl h 0) (And.intro (box_cell HB.out hl h 1) (box_cell HB.out hl h 2)))
  go_enter Tryd.func5, Tryd.ntmps5
  go_wp2_with fail
  refine (Groups_any HI1.out.fz).mono ?_
  rw [hG.out]
  rintro e w2 ⟨a2, c2, φ2, rfl, hi2, hs2⟩
  have I2 := Lib.hid (HI1.out.call hi2)
  have S2 := Lib.hid hs2
  have L2 := Lib.hid hi2.le
  clear hi2 hs2
  rw [hn.out]
  obtain ⟨y0, y1, y2⟩ := hbox.out _ _ L2.out I2.out.fz
  go_wp2_with fail
  refine (RGroups_any I2.out.fz).mono ?_
  rw [hG.out]
  rintro e w3 ⟨a3, c3, φ3, rfl, hi3, hs3⟩
  have I3 := Lib.hid (I2.out.call hi3)
  have S3 := Lib.hid hs3
  have S2' := Lib.hid (S2.out.mono hi3.le)
  have L3 := Lib.hid (L2.out.trans hi3.le)
  clear hi3 hs3 y0 y1 y2 I2
  rw [hn.out]
  obtain ⟨y0, y1, y2⟩ := hbox.out _ _ L3.out I3.out.fz
  go_wp2_with fail
  have Id := Lib.hid (I3.out.drewN 1)
  have I3d : Hid (Inv w.heap.size w φ φ3 w3.drew) := Lib.hid (I3.out.callB (bdrewN (Below.refl _ _) 1))
  go_region_held3 (fun w' => w'.cell? ⟨bx, 0, none⟩ = some (.int .i64 x) ∧ w'.cell? ⟨bx, 1, none⟩ = some (.int .i64 y) ∧ w'.cell? ⟨bx, 2, none⟩ = some (.int .i64 z)) (first | exact ⟨y0, y1, y2⟩ | exact ⟨by assumption, by assumption, by assumption⟩) (first
    | ((with_reducible refine (CheckRot_S hF (by assumption)).mono ?_); rintro e w4 ⟨rfl, hX⟩; obtain ⟨u0, u1, u2⟩ := hbox.out _ _ L3.out hX.out.fz)
    | ((with_reducible refine (RCheckRot_S hF (by assumption)).mono ?_); rintro e w5 ⟨rfl, hX⟩; obtain ⟨u0, u1, u2⟩ := hbox.out _ _ L3.out hX.out.fz)
    | ((with_reducible refine (Equal_S S2' hn (by omega) S3 (by assumption)).mono ?_); rintro e w6 ⟨rfl, hX⟩; obtain ⟨u0, u1, u2⟩ := hbox.out _ _ L3.out hX.out.fz))
  have I6 : Hid (Inv w.heap.size w φ φ3 w6) := by assumption
  have HP3 := Lib.hid (HP.out.mono L3.out)
  clear I3 I3d Id y0 y1 y2
  go_wp2_with fail
  refine (Overlap_any I6.out.fz HP3.out hK).mono ?_
  rintro e w7 ⟨rfl, hb7⟩
  have I7 := Lib.hid (I6.out.callB hb7)
  clear hb7
  obtain ⟨y0, y1, y2⟩ := hbox.out _ _ L3.out I7.out.fz
  have hbl : bx < w7.heap.size := block_lt_of_cell y0
  go_wp2_with fail
  have I8 := Lib.hid (I7.out.alloc (.cells #[.string S, .string T] 34))
  have B8 := Lib.hid (Blk.new w7 #[.string S, .string T] 34)
  refine (ROverlap_any I8.out.fz HP3.out hK).mono ?_
  rintro e w9 ⟨rfl, hb9⟩
  have I9 := Lib.hid (I8.out.callB hb9)
  have B9 := Lib.hid (B8.out.callB hb9)
  have z0 : w9.cell? ⟨w7.heap.size, 0, none⟩ = some (.string S) := B9.out.cell 0
  have z1 : w9.cell? ⟨w7.heap.size, 1, none⟩ = some (.string T) := B9.out.cell 1
  have hlt := B9.out.lt
  clear hb9 y0 y1 y2
  go_wp2
  go_ret
  exact ⟨rfl, (I9.out.alloc _).bel⟩
def RotG (x : Rot) : Prop := IsI64 x.1 ∧ IsI64 x.2.1 ∧ IsI64 x.2.2
theorem rRot (H : Type) (enc : TypeId × Value → H) (W : World) : Reads enc Tryd.prog W 41 Rot RotG :=
  Reads.struct3 (s1 := 1) (s2 := 1) (s3 := 1) Tryd.underlying41 (by kernel_rfl) (by kernel_rfl) (by kernel_rfl) (by kernel_rfl) (by kernel_rfl) (by kernel_rfl) (by kernel_rfl) (rInt H enc W) (rInt H enc W) (rInt H enc W)
theorem samplePanelsMatchSpec_walk (w : World) (φ : Phi) (hφ : Fz φ w) (hp : PowP φ) (cs : Array Value) (x : Rot) (hx : Rep.rep φ x cs.toList) (g : RotG x) (wave : Int) (gw : IsI64 wave) (later : Int) (gl : IsI64 later) :
    Calls Tryd.prog 5 #[.agg cs, .int .i64 wave, .int .i64 later] w fun e w' => e = .returned (.bool true) ∧ Below w.heap.size w w' := by
  obtain ⟨c, d, hcd, hc, c2, d2, hcd2, hc2, hd2⟩ := hx
  have e : cs = #[.int .i64 x.1, .int .i64 x.2.1, .int .i64 x.2.2] := by
    apply Array.toList_inj.1
    rw [hcd, hcd2, hc, hc2, hd2]; rfl
  rw [e]
  exact panels_core hφ hp
end Go.Proofs.YtafcecgcmaoakaaDoor
