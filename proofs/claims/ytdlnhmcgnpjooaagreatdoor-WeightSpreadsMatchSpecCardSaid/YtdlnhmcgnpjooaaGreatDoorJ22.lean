/- The law WeightSpreadsMatchSpec's walk. Conditions: the library's table of powers of ten reads as it was laid. -/
import Derived.Test.YtdlnhmcgnpjooaaGreatDoorJ21
import Derived.Test.YtdlnhmcgnpjooaaGreatDoorJ19
import Derived.Test.YtdlnhmcgnpjooaaGreatDoorNC
import Derived.Test.YtdlnhmcgnpjooaaGreatDoorBB
import Derived.Laws.StructEq
namespace Go.Proofs.YtdlnhmcgnpjooaaGreatDoor
open Go.RowKit
set_option linter.unusedVariables false
theorem spB_ten {M K n : Nat} (hK : Hid (10 ^ K ≤ M)) (hK2 : 150000 ≤ K) (hn : n ≤ 3000) : SpB M 1000000000000 1000000000000 n := by
  have hE := efB_ten hK hK2 hn
  obtain ⟨N, hN⟩ : ∃ N, N = 1000000000000 := ⟨_, rfl⟩
  have h1 : N ≤ 10 ^ 12 := by rw [hN]; decide
  rw [← hN] at hE ⊢
  obtain ⟨m, hm⟩ : ∃ m, m = 3000 := ⟨_, rfl⟩
  rw [← hm] at hn
  have h0 : n ≤ 10 ^ 4 := by have : (10 : Nat) ^ 4 = 10000 := by decide
                             omega
  have h2 := ten_mul h1 h1
  have h3 := ten_pow h1 hn
  have h4 := ten_pow h2 hn
  have h6 := ten_mul (ten_mul h0 h2) h4
  have hT : N * N + N * N ≤ 10 ^ 25 := by
    have e : (10 : Nat) ^ 25 = 10 * 10 ^ 24 := by decide
    omega
  have h9 : (1 : Nat) ≤ 10 ^ 0 := by decide
  have fin : ∀ {a i : Nat}, a ≤ 10 ^ i → i ≤ K → a ≤ M := fun h hi => Nat.le_trans (ten_le h hi) hK.out
  exact ⟨hE, fin (ten_mul h3 h0) (by omega), fin (ten_mul h0 (ten_mul (ten_mul h3 h3) h6)) (by omega), fin h0 (by omega), fin hT (by omega), fin h9 (by omega)⟩
theorem eqSp (w : World) (s0 s1 s2 s3 s4 s5 s6 s7 s8 s9 s10 s11 : ByteArray) : (binOp .eql 33 (.agg #[.string s0, .string s1, .string s2, .string s3, .string s4, .string s5, .string s6, .string s7, .string s8, .string s9, .string s10, .string s11]) (.agg #[.string s0, .string s1, .string s2, .string s3, .string s4, .string s5, .string s6, .string s7, .string s8, .string s9, .string s10, .string s11])).run Tryz.prog w = .ok (.bool true) w := by
  have hu := Tryz.underlying33
  have hr := Tryz.underlying29
  have hi := Tryz.underlying9
  rw [run_eql_struct, run_equalIn_agg w 9999 _ _ _ (by simp only [Program.fieldsOf, hu]) (by kernel_rfl)]
  simp only [Program.fieldsOf, hu]
  have hR : ∀ (d : Nat) (x y : ByteArray), (Op.equalIn (d + 1 + 1) 29 (.agg #[.string x, .string y]) (.agg #[.string x, .string y])).run Tryz.prog w = .ok true w := by
    intro d x y
    rw [run_equalIn_agg w (d + 1) _ _ _ (by simp only [Program.fieldsOf, hr]) (by kernel_rfl)]
    simp only [Program.fieldsOf, hr]
    simp [Op.eqFields, part, Program.cellsOf, run_equalIn_string w _ 9 _ _ hi, Result.andThen]
  simp [Op.eqFields, part, Program.cellsOf, hR 9997, Result.andThen]
theorem rRti5 (H : Type) (enc : TypeId × Value → H) (W : World) : Reads enc Tryz.prog W 29 Rti (fun x => StrG x.1 ∧ StrG x.2) :=
  Reads.struct2 (s1 := 1) (s2 := 1) Tryz.underlying29 (by kernel_rfl) (by kernel_rfl) (by kernel_rfl) (by kernel_rfl) (by kernel_rfl) (rStr H enc W) (rStr H enc W)
theorem p10_le {j k : Nat} (h : j ≤ k) : p10 j ≤ p10 k := Nat.pow_le_pow_right (by decide) h
def GPsn (x : Psn) : Prop := (StrG x.1.1 ∧ StrG x.1.2) ∧ ((x.2.1.length * 8 ≤ reachBytes ∧ ∀ y ∈ x.2.1, IsI64 y) ∧ (IsI64 x.2.2.1 ∧ (IsI64 x.2.2.2.1 ∧ IsI64 x.2.2.2.2)))
theorem rPsn (H : Type) (enc : TypeId × Value → H) (W : World) : Reads enc Tryz.prog W 43 Psn GPsn :=
  Reads.struct5 (s1 := 2) (s2 := 1) (s3 := 1) (s4 := 1) (s5 := 1) Tryz.underlying43 (by kernel_rfl) (by kernel_rfl) (by kernel_rfl) (by kernel_rfl) (by kernel_rfl) (by kernel_rfl) (by kernel_rfl) (by kernel_rfl) (by kernel_rfl) (by kernel_rfl) (by kernel_rfl) (rRti5 H enc W) (rInts H enc W) (rInt H enc W) (rInt H enc W) (rInt H enc W)
theorem rPsns (H : Type) (enc : TypeId × Value → H) (W : World) : Reads enc Tryz.prog W 31 (List Psn) (fun xs => xs.length * Tryz.prog.bytesOf 43 ≤ reachBytes ∧ ∀ x ∈ xs, GPsn x) :=
  Reads.slice Tryz.underlying31 (by kernel_rfl) (by decide) (rPsn H enc W)
theorem psnG_of {l : List Psn} (h : ∀ x ∈ l, GPsn x) : ∀ p ∈ l, PsnG p := by
  intro p hp
  obtain ⟨⟨h1, h2⟩, _⟩ := h p hp
  unfold StrG reachBytes at h1 h2
  exact ⟨by omega, by omega⟩
theorem spB_p {K n : Nat} (hK2 : 150000 ≤ K) (hn : n ≤ 3000) : SpB (p10 K) 1000000000000 1000000000000 n := spB_ten (K := K) (Lib.hid (Nat.le_refl _)) hK2 hn
set_option maxRecDepth 100000 in
set_option maxHeartbeats 1000000 in
theorem spreads_core {M : Nat} (hM : LenB M) (hD : Hid (DivOk M)) (hRD : Hid (RdivOk M)) (hM2 : p10 2000 ≤ M) {n : Nat} (hB : Hid (n ≤ 3000 → SpB M 1000000000000 1000000000000 n)) {a : Option Addr} {cap : Nat} {l : List Psn} {w : World} {φ : Phi} (hφ : Fz φ w) (hp : PowP φ) (sl : SlV φ a cap l) (hn : Hid (l.length = n)) (hsz : Hid (∀ p ∈ l, PsnG p)) :
    Calls Tryz.prog 4 #[.slice a n cap] w (fun e w' => e = .returned (.bool true) ∧ Below w.heap.size w w') := by
  obtain ⟨L, hL⟩ : ∃ L, (sprR l).1 = L := ⟨_, rfl⟩
  obtain ⟨F, hF⟩ : ∃ F, (sprR l).2 = F := ⟨_, rfl⟩
  have hR : Hid (sprR l = (L, F)) := Lib.hid (by rw [← hL, ← hF])
  have hSV : ∃ s0 s1 s2 s3 s4 s5 s6 s7 s8 s9 s10 s11 : ByteArray, sprV L = .agg #[.string s0, .string s1, .string s2, .string s3, .string s4, .string s5, .string s6, .string s7, .string s8, .string s9, .string s10, .string s11] := ⟨_, _, _, _, _, _, _, _, _, _, _, _, rfl⟩
  obtain ⟨s0, s1, s2, s3, s4, s5, s6, s7, s8, s9, s10, s11, hSV⟩ := hSV
  have hC1 := Lib.hid (fun W (hf : Fz φ W) => SpreadOf_any hD hM hM2 hB hf hp sl hn hsz hR)
  have hC2 := Lib.hid (fun W (hf : Fz φ W) => RSpreadOf_any hRD hM hM2 hB hf hp sl hn hsz hR)
  rw [hSV] at hC1 hC2
  have HI := Lib.hid (Inv.start hφ)
  have hFF : (F == F) = true := by simp
  have hEq := fun w => eqSp w s0 s1 s2 s3 s4 s5 s6 s7 s8 s9 s10 s11
  have hgd : Tryz.prog.eqGuardType Tryz.prog.depth 33 = false := by kernel_rfl
  clear hL hF hφ hp sl hR hB hSV
  go_enter Tryz.func4, Tryz.ntmps4
  go_upto_region 3 with (first
    | (go_at_call 13; (with_reducible refine (hC2.out _ I1.out.fz).mono ?_); rintro e w2 ⟨rfl, hb2⟩; have I2 := Lib.hid ((I1.out.callB hb2).alloc (.cells #[.string s0, .string s1, .string s2, .string s3, .string s4, .string s5, .string s6, .string s7, .string s8, .string s9, .string s10, .string s11] 33)); have K2 := Lib.hid ((K1.out.callB hb2).alloc (.cells #[.string s0, .string s1, .string s2, .string s3, .string s4, .string s5, .string s6, .string s7, .string s8, .string s9, .string s10, .string s11] 33)); have K3 := Lib.hid (Blk.new w2 #[.string s0, .string s1, .string s2, .string s3, .string s4, .string s5, .string s6, .string s7, .string s8, .string s9, .string s10, .string s11] 33); clear hb2)
    | (go_at_call 12; (with_reducible refine (hC1.out _ HI.out.fz).mono ?_); rintro e w1 ⟨rfl, hb1⟩; have I1 := Lib.hid ((HI.out.callB hb1).alloc (.cells #[.string s0, .string s1, .string s2, .string s3, .string s4, .string s5, .string s6, .string s7, .string s8, .string s9, .string s10, .string s11] 33)); have K1 := Lib.hid (Blk.new w1 #[.string s0, .string s1, .string s2, .string s3, .string s4, .string s5, .string s6, .string s7, .string s8, .string s9, .string s10, .string s11] 33); clear hb1))
  generalize w2.alloc (.cells #[Value.string s0, Value.string s1, Value.string s2, Value.string s3, Value.string s4, Value.string s5, Value.string s6, Value.string s7, Value.string s8, Value.string s9, Value.string s10, Value.string s11] 33) = wz at *
  generalize w2.heap.size = b2 at *
  generalize w1.heap.size = b1 at *
  have x0 : wz.cell? ⟨b1, 0, none⟩ = some (.string s0) := K2.out.cell 0
  have x1 : wz.cell? ⟨b1, 1, none⟩ = some (.string s1) := K2.out.cell 1
  have x2 : wz.cell? ⟨b1, 2, none⟩ = some (.string s2) := K2.out.cell 2
  have x3 : wz.cell? ⟨b1, 3, none⟩ = some (.string s3) := K2.out.cell 3
  have x4 : wz.cell? ⟨b1, 4, none⟩ = some (.string s4) := K2.out.cell 4
  have x5 : wz.cell? ⟨b1, 5, none⟩ = some (.string s5) := K2.out.cell 5
  have x6 : wz.cell? ⟨b1, 6, none⟩ = some (.string s6) := K2.out.cell 6
  have x7 : wz.cell? ⟨b1, 7, none⟩ = some (.string s7) := K2.out.cell 7
  have x8 : wz.cell? ⟨b1, 8, none⟩ = some (.string s8) := K2.out.cell 8
  have x9 : wz.cell? ⟨b1, 9, none⟩ = some (.string s9) := K2.out.cell 9
  have x10 : wz.cell? ⟨b1, 10, none⟩ = some (.string s10) := K2.out.cell 10
  have x11 : wz.cell? ⟨b1, 11, none⟩ = some (.string s11) := K2.out.cell 11
  have y0 : wz.cell? ⟨b2, 0, none⟩ = some (.string s0) := K3.out.cell 0
  have y1 : wz.cell? ⟨b2, 1, none⟩ = some (.string s1) := K3.out.cell 1
  have y2 : wz.cell? ⟨b2, 2, none⟩ = some (.string s2) := K3.out.cell 2
  have y3 : wz.cell? ⟨b2, 3, none⟩ = some (.string s3) := K3.out.cell 3
  have y4 : wz.cell? ⟨b2, 4, none⟩ = some (.string s4) := K3.out.cell 4
  have y5 : wz.cell? ⟨b2, 5, none⟩ = some (.string s5) := K3.out.cell 5
  have y6 : wz.cell? ⟨b2, 6, none⟩ = some (.string s6) := K3.out.cell 6
  have y7 : wz.cell? ⟨b2, 7, none⟩ = some (.string s7) := K3.out.cell 7
  have y8 : wz.cell? ⟨b2, 8, none⟩ = some (.string s8) := K3.out.cell 8
  have y9 : wz.cell? ⟨b2, 9, none⟩ = some (.string s9) := K3.out.cell 9
  have y10 : wz.cell? ⟨b2, 10, none⟩ = some (.string s10) := K3.out.cell 10
  have y11 : wz.cell? ⟨b2, 11, none⟩ = some (.string s11) := K3.out.cell 11
  go_wp2
  go_ret
  exact ⟨rfl, I2.out.bel⟩
theorem weightSpreadsMatchSpec_walk (w : World) (φ : Phi) (hφ : Fz φ w) (hp : PowP φ) (a : Option Addr) (cap : Nat) (xs : List Psn) (s : SlV φ a cap xs) (g : xs.length * Tryz.prog.bytesOf 43 ≤ reachBytes ∧ ∀ x ∈ xs, GPsn x) :
    Calls Tryz.prog 4 #[.slice a xs.length cap] w fun e w' => e = .returned (.bool true) ∧ Below w.heap.size w w' :=
  have hM := lenB_p (j := 200000) (k := 22223) (by decide) (by decide)
  spreads_core hM (Lib.hid (div_any hM)) (Lib.hid (Rdiv_any hM)) (p10_le (by decide)) (Lib.hid (fun h => spB_p (by decide) h)) hφ hp s (Lib.hid rfl) (Lib.hid (psnG_of g.2))
end Go.Proofs.YtdlnhmcgnpjooaaGreatDoor
