/- The law WeightBasesMatchSpec's walk. Conditions: the library's table of powers of ten reads as it was laid. -/
import Derived.Test.YtmlpjffnmkndoaaGreatDoorJ3
import Derived.Test.YtmlpjffnmkndoaaGreatDoorNC
import Derived.Laws.StructEq
namespace Go.Proofs.YtmlpjffnmkndoaaGreatDoor
open Go.RowKit
set_option linter.unusedVariables false
set_option linter.unusedSimpArgs false
theorem neqR (w : World) (s t : ByteArray) : (binOp .neq 32 (.agg #[.string s, .string t]) (.agg #[.string s, .string t])).run Tryz.prog w = .ok (.bool false) w := by
  have hu := Tryz.underlying32
  rw [run_neq_struct, run_equalIn_agg w 9999 _ _ _ (by simp only [Program.fieldsOf, hu]) (by kernel_rfl)]
  simp only [Program.fieldsOf, hu]
  have hi := Tryz.underlying9
  simp [Op.eqFields, part, Program.cellsOf, run_equalIn_string w _ 9 _ _ hi, Result.andThen]
set_option maxHeartbeats 1000000 in
theorem EqualR_same (n : Nat) (a1 : Option Addr) (c1 : Nat) (xs : List Rti) (a2 : Option Addr) (c2 : Nat) (w : World) (φ : Phi) (hφ : Fz φ w) (s1 : SlV φ a1 c1 xs) (hn1 : Hid (xs.length = n)) (hm1 : n ≤ 9223372036854775807) (s2 : SlV φ a2 c2 xs) :
    Calls Tryz.prog 27 #[.slice a1 n c1, .slice a2 n c2] w (fun e w' => e = .returned (.bool true) ∧ Below w.heap.size w w') := by
  have hb1 : ((n : Int) != n) = false := by simp
  go_enter Tryz.func27, Tryz.ntmps27
  go_wp2
  clear hb1
  go_loopw [13] (fun i wr => ∃ k : Nat, k ≤ n ∧ i = .int .i64 k ∧ Hid (Below w.heap.size w wr)) (fun i _ => n - (intOf i).toNat)
  case atStart => exact ⟨0, Nat.zero_le _, rfl, Lib.hid (Below.refl _ _)⟩
  case round =>
    obtain ⟨k, hk, rfl, hB⟩ := hrel
    by_cases hlt : k < n
    · obtain ⟨b1, o1, rfl, f1⟩ := s1.rtisD hn1 hlt
      obtain ⟨d1, d2⟩ := f1 k hlt wr (hφ.below hB.out)
      obtain ⟨b2, o2, rfl, f2⟩ := s2.rtisD hn1 hlt
      obtain ⟨e1, e2⟩ := f2 k hlt wr (hφ.below hB.out)
      clear f1 f2
      have hi1 : (k : Int) < n := by omega
      generalize (xs.getD k rti0).1 = x at *
      generalize (xs.getD k rti0).2 = y at *
      have hgd : Tryz.prog.eqGuardType Tryz.prog.depth 32 = false := by kernel_rfl
      have hneq := fun w => neqR w x y
      go_wp2_with fail
      go_quiet (fail)
      go_wp2
      go_roundw
      case rel => exact ⟨k + 1, by omega, by go_num, Lib.hid (bdrewN hB.out _)⟩
      case measure => (simp [intOf] <;> omega)
    · obtain rfl : k = n := by omega
      go_wp2
      go_ret
      exact ⟨rfl, hB.out⟩
theorem rRti (H : Type) (enc : TypeId × Value → H) (W : World) : Reads enc Tryz.prog W 32 Rti (fun x => StrG x.1 ∧ StrG x.2) :=
  Reads.struct2 (s1 := 1) (s2 := 1) Tryz.underlying32 (by kernel_rfl) (by kernel_rfl) (by kernel_rfl) (by kernel_rfl) (by kernel_rfl) (rStr H enc W) (rStr H enc W)
end Go.Proofs.YtmlpjffnmkndoaaGreatDoor
