/- The law WeightBasesMatchSpec's walk. Conditions: the library's table of powers of ten reads as it was laid. -/
import Derived.Test.YtdlnhmcgnpjooaaGreatDoorJ3
import Derived.Test.YtdlnhmcgnpjooaaGreatDoorNC
import Derived.Laws.StructEq
namespace Go.Proofs.YtdlnhmcgnpjooaaGreatDoor
open Go.RowKit
set_option linter.unusedVariables false
set_option linter.unusedSimpArgs false
theorem neqR (w : World) (s t : ByteArray) : (binOp .neq 29 (.agg #[.string s, .string t]) (.agg #[.string s, .string t])).run Tryz.prog w = .ok (.bool false) w := by
  have hu := Tryz.underlying29
  rw [run_neq_struct, run_equalIn_agg w 9999 _ _ _ (by simp only [Program.fieldsOf, hu]) (by kernel_rfl)]
  simp only [Program.fieldsOf, hu]
  have hi := Tryz.underlying9
  simp [Op.eqFields, part, Program.cellsOf, run_equalIn_string w _ 9 _ _ hi, Result.andThen]
set_option maxHeartbeats 1000000 in
theorem EqualR_same (n : Nat) (a1 : Option Addr) (c1 : Nat) (xs : List Rti) (a2 : Option Addr) (c2 : Nat) (w : World) (φ : Phi) (hφ : Fz φ w) (s1 : SlV φ a1 c1 xs) (hn1 : Hid (xs.length = n)) (hm1 : n ≤ 9223372036854775807) (s2 : SlV φ a2 c2 xs) :
    Calls Tryz.prog 11 #[.slice a1 n c1, .slice a2 n c2] w (fun e w' => e = .returned (.bool true) ∧ Below w.heap.size w w') := by
  have hb1 : ((n : Int) != n) = false := by simp
  go_enter Tryz.func11, Tryz.ntmps11
  go_wp2
  clear hb1
  go_loopw [13] (fun i wr => ∃ k : Nat, k ≤ n ∧ i = .int .i64 k ∧ Hid (Below w.heap.size w wr)) (fun i _ => n - (intOf i).toNat)
  case atStart => exact ⟨0, Nat.zero_le _, rfl, Lib.hid (Below.refl _ _)⟩
  case round =>
    obtain ⟨k, hk, rfl, hB⟩ := hrel
    by_cases hlt : k < n
    · obtain ⟨b1, o1, rfl, f1⟩ := s1.rtisD hn1 hlt
      obtain ⟨d1, d2⟩ := f1 k hlt wr (hφ.below hB.out)
      obtain ⟨b2, o2, rfl, f2⟩ := s2.rtisD hn1 hlt
      obtain ⟨e1, e2⟩ := f2 k hlt wr (hφ.below hB.out)
      clear f1 f2
      have hi1 : (k : Int) < n := by omega
      generalize (xs.getD k rti0).1 = x at *
      generalize (xs.getD k rti0).2 = y at *
      have hgd : Tryz.prog.eqGuardType Tryz.prog.depth 29 = false := by kernel_rfl
      have hneq := fun w => neqR w x y
      go_wp2_with fail
      go_quiet (fail)
      go_wp2
      go_roundw
      case rel => exact ⟨k + 1, by omega, by go_num, Lib.hid (bdrewN hB.out _)⟩
      case measure => (simp [intOf] <;> omega)
    · obtain rfl : k = n := by omega
      go_wp2
      go_ret
      exact ⟨rfl, hB.out⟩
theorem rRti (H : Type) (enc : TypeId × Value → H) (W : World) : Reads enc Tryz.prog W 29 Rti (fun x => StrG x.1 ∧ StrG x.2) :=
  Reads.struct2 (s1 := 1) (s2 := 1) Tryz.underlying29 (by kernel_rfl) (by kernel_rfl) (by kernel_rfl) (by kernel_rfl) (by kernel_rfl) (rStr H enc W) (rStr H enc W)
theorem rPck (H : Type) (enc : TypeId × Value → H) (W : World) : Reads enc Tryz.prog W 56 Pck (fun x => IsI64 x.1 ∧ (StrG x.2.1 ∧ StrG x.2.2)) :=
  Reads.struct2 (s1 := 1) (s2 := 2) Tryz.underlying56 (by kernel_rfl) (by kernel_rfl) (by kernel_rfl) (by kernel_rfl) (by kernel_rfl) (rInt H enc W) (rRti H enc W)
theorem rPcks (H : Type) (enc : TypeId × Value → H) (W : World) : Reads enc Tryz.prog W 22 (List Pck) (fun xs => xs.length * Tryz.prog.bytesOf 56 ≤ reachBytes ∧ ∀ x ∈ xs, IsI64 x.1 ∧ (StrG x.2.1 ∧ StrG x.2.2)) :=
  Reads.slice Tryz.underlying22 (by kernel_rfl) (by decide) (rPck H enc W)
set_option maxHeartbeats 1000000 in
theorem bases_core {n : Nat} {a : Option Addr} {cap : Nat} {l : List Pck} {w : World} {φ : Phi} (hφ : Fz φ w) (hp : PowP φ) (sl : SlV φ a cap l) (hn : Hid (l.length = n)) (hsz : Hid (∀ p ∈ l, p.2.1.size ≤ 9223372036854775807 ∧ p.2.2.size ≤ 9223372036854775807)) :
    Calls Tryz.prog 3 #[.slice a n cap] w (fun e w' => e = .returned (.bool true) ∧ Below w.heap.size w w') := by
  obtain ⟨L, hL⟩ : ∃ L, (basesR l).1 = L := ⟨_, rfl⟩
  obtain ⟨F, hF⟩ : ∃ F, (basesR l).2 = F := ⟨_, rfl⟩
  have hR : Hid (basesR l = (L, F)) := Lib.hid (by rw [← hL, ← hF])
  obtain ⟨m, hm⟩ : ∃ m, Hid (L.length = m) := ⟨_, Lib.hid rfl⟩
  have hD := Lib.hid (div_any lenB_p10)
  have hRD := Lib.hid (Rdiv_any lenB_p10)
  have hFF : (F == F) = true := by simp
  have HI := Lib.hid (Inv.start hφ)
  have HS := Lib.hid sl
  have HP := Lib.hid hp
  clear hL hF hφ hp sl
  go_enter Tryz.func3, Tryz.ntmps3
  go_wp2_with (first
    | (go_at_call 11; (with_reducible refine (EqualR_same m _ _ L _ _ _ _ I2.out.fz (S1.out.mono L2.out) hm hm9 S2.out).mono ?_); rintro e w3 ⟨rfl, hb3⟩; have I3 := Lib.hid (I2.out.callB hb3); clear hb3)
    | (go_at_call 10; (with_reducible refine (RBases_any hRD lenB_p10 (Nat.le_refl _) I1.out.fz (HP.out.mono I1.out.le) (HS.out.mono I1.out.le) hn hsz hR).mono ?_); rintro e w2 ⟨a2, c2, φ2, rfl, hi2, s2⟩; rw [show (L, F).1.length = m from hm.out]; have I2 := Lib.hid (I1.out.call hi2); have L2 := Lib.hid hi2.le; have S2 := Lib.hid s2; clear hi2 s2)
    | (go_at_call 9; (with_reducible refine (Bases_any hD lenB_p10 (Nat.le_refl _) HI.out.fz HP.out HS.out hn hsz hR).mono ?_); rintro e w1 ⟨a1, c1, φ1, rfl, hi1, s1⟩; rw [show (L, F).1.length = m from hm.out]; have I1 := Lib.hid (HI.out.call hi1); have S1 := Lib.hid s1; have hm9 : m ≤ 9223372036854775807 := (by rw [← hm.out]; have h1 := s1.capn; have h2 := s1.capm; unfold maxLen at h2; simp only at h1; omega); clear hi1 s1))
  go_ret
  exact ⟨rfl, I3.out.bel⟩
theorem weightBasesMatchSpec_walk (w : World) (φ : Phi) (hφ : Fz φ w) (hp : PowP φ) (a : Option Addr) (cap : Nat) (xs : List Pck) (s : SlV φ a cap xs) (g : xs.length * Tryz.prog.bytesOf 56 ≤ reachBytes ∧ ∀ x ∈ xs, IsI64 x.1 ∧ (StrG x.2.1 ∧ StrG x.2.2)) :
    Calls Tryz.prog 3 #[.slice a xs.length cap] w fun e w' => e = .returned (.bool true) ∧ Below w.heap.size w w' :=
  bases_core hφ hp s (Lib.hid rfl) (Lib.hid (fun p hpm => by
    obtain ⟨_, h1, h2⟩ := g.2 p hpm
    unfold StrG reachBytes at h1 h2
    exact ⟨by omega, by omega⟩))
end Go.Proofs.YtdlnhmcgnpjooaaGreatDoor
