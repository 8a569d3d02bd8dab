/- The law WeightResponsesMatchSpec's walk. Conditions: the library's table of powers of ten reads as it was laid. -/
import Derived.Test.YtdlnhmcgnpjooaaGreatDoorJ26
import Derived.Test.YtdlnhmcgnpjooaaGreatDoorJ24
import Derived.Test.YtdlnhmcgnpjooaaGreatDoorJ19
import Derived.Test.YtdlnhmcgnpjooaaGreatDoorJ4
namespace Go.Proofs.YtdlnhmcgnpjooaaGreatDoor
open Go.RowKit
set_option linter.unusedVariables false
set_option linter.unusedSimpArgs false
theorem rpB_ten {M K n : Nat} (hK : Hid (10 ^ K ≤ M)) (hK2 : 150000 ≤ K) (hn : n ≤ 3000) : RpB M 1000000000000 1000000000000 n := by
  obtain ⟨N, hN⟩ : ∃ N, N = 1000000000000 := ⟨_, rfl⟩
  have h1 : N ≤ 10 ^ 12 := by rw [hN]; decide
  rw [← hN]
  obtain ⟨m, hm⟩ : ∃ m, m = 3000 := ⟨_, rfl⟩
  rw [← hm] at hn
  have h0 : n ≤ 10 ^ 4 := by have : (10 : Nat) ^ 4 = 10000 := by decide
                             omega
  have h3 := ten_pow h1 hn
  have h5 := ten_mul (ten_mul h0 h1) h3
  have fin : ∀ {a i : Nat}, a ≤ 10 ^ i → i ≤ K → a ≤ M := fun h hi => Nat.le_trans (ten_le h hi) hK.out
  exact ⟨fin h5 (by omega), fin h3 (by omega), fin (ten_mul h1 h5) (by omega), fin (ten_mul h1 h3) (by omega), fin h1 (by omega), fin (ten_mul (ten_mul h1 h5) h3) (by omega), fin (ten_mul (ten_mul h1 h3) h5) (by omega), fin (ten_mul h5 h3) (by omega), fin (ten_mul h1 (ten_mul h5 h3)) (by omega), fin (ten_mul h1 (ten_mul h3 h5)) (by omega), fin (ten_mul h3 h5) (by omega)⟩
theorem rpB_p {K n : Nat} (hK2 : 150000 ≤ K) (hn : n ≤ 3000) : RpB (p10 K) 1000000000000 1000000000000 n := rpB_ten (K := K) (Lib.hid (Nat.le_refl _)) hK2 hn
theorem p10_leR {j k : Nat} (h : j ≤ k) : p10 j ≤ p10 k := Nat.pow_le_pow_right (by decide) h
def GPsnR (x : Psn) : Prop := (StrG x.1.1 ∧ StrG x.1.2) ∧ ((x.2.1.length * 8 ≤ reachBytes ∧ ∀ y ∈ x.2.1, IsI64 y) ∧ (IsI64 x.2.2.1 ∧ (IsI64 x.2.2.2.1 ∧ IsI64 x.2.2.2.2)))
theorem rPsnR (H : Type) (enc : TypeId × Value → H) (W : World) : Reads enc Tryz.prog W 43 Psn GPsnR :=
  Reads.struct5 (s1 := 2) (s2 := 1) (s3 := 1) (s4 := 1) (s5 := 1) Tryz.underlying43 (by kernel_rfl) (by kernel_rfl) (by kernel_rfl) (by kernel_rfl) (by kernel_rfl) (by kernel_rfl) (by kernel_rfl) (by kernel_rfl) (by kernel_rfl) (by kernel_rfl) (by kernel_rfl) (rRti H enc W) (rInts H enc W) (rInt H enc W) (rInt H enc W) (rInt H enc W)
theorem rPsnsR (H : Type) (enc : TypeId × Value → H) (W : World) : Reads enc Tryz.prog W 31 (List Psn) (fun xs => xs.length * Tryz.prog.bytesOf 43 ≤ reachBytes ∧ ∀ x ∈ xs, GPsnR x) :=
  Reads.slice Tryz.underlying31 (by kernel_rfl) (by decide) (rPsnR H enc W)
theorem rBoolsR (H : Type) (enc : TypeId × Value → H) (W : World) : Reads enc Tryz.prog W 37 (List Bool) (fun xs => xs.length * Tryz.prog.bytesOf 4 ≤ reachBytes ∧ ∀ x ∈ xs, True) :=
  Reads.slice Tryz.underlying37 (by kernel_rfl) (by decide) (Reads.bool Tryz.underlying4)
theorem psnG_ofR {l : List Psn} (h : ∀ x ∈ l, GPsnR x) : ∀ p ∈ l, PsnG p := by
  intro p hp
  obtain ⟨⟨h1, h2⟩, _⟩ := h p hp
  unfold StrG reachBytes at h1 h2
  exact ⟨by omega, by omega⟩
set_option maxRecDepth 100000 in
set_option maxHeartbeats 1000000 in
theorem responses_core {M : Nat} (hM : LenB M) (hD : Hid (DivOk M)) (hRD : Hid (RdivOk M)) (hM2 : p10 2000 ≤ M) {n : Nat} (hB : Hid (n ≤ 3000 → RpB M 1000000000000 1000000000000 n)) {a : Option Addr} {cap : Nat} {l : List Psn} {w : World} {φ : Phi} (hφ : Fz φ w) (hp : PowP φ) (sl : SlV φ a cap l) (hn : Hid (l.length = n)) (hsz : Hid (∀ p ∈ l, PsnG p)) {aa : Option Addr} {ca : Nat} {an : List Bool} (sa : SlV φ aa ca an) {ma : Nat} (hna : Hid (an.length = ma)) :
    Calls Tryz.prog 5 #[.slice a n cap, .slice aa ma ca] w (fun e w' => e = .returned (.bool true) ∧ Below w.heap.size w w') := by
  obtain ⟨L, hL⟩ : ∃ L, (respR l an).1 = L := ⟨_, rfl⟩
  obtain ⟨F, hF⟩ : ∃ F, (respR l an).2 = F := ⟨_, rfl⟩
  have hR : Hid (respR l an = (L, F)) := Lib.hid (by rw [← hL, ← hF])
  obtain ⟨m, hm⟩ : ∃ m, Hid (L.length = m) := ⟨_, Lib.hid rfl⟩
  have hFF : (F == F) = true := by simp
  have HI := Lib.hid (Inv.start hφ)
  have HS := Lib.hid sl
  have HA := Lib.hid sa
  have HP := Lib.hid hp
  clear hL hF hφ hp sl sa
  go_enter Tryz.func5, Tryz.ntmps5
  go_wp2_with (first
    | (go_at_call 11; (with_reducible refine (EqualR_same m _ _ L _ _ _ _ I2.out.fz (S1.out.mono L2.out) hm hm9 S2.out).mono ?_); rintro e w3 ⟨rfl, hb3⟩; have I3 := Lib.hid (I2.out.callB hb3); clear hb3)
    | (go_at_call 15; (with_reducible refine (RRespond_any hRD hM hM2 hB I1.out.fz (HP.out.mono I1.out.le) (HS.out.mono I1.out.le) hn hsz (HA.out.mono I1.out.le) hna hR).mono ?_); rintro e w2 ⟨a2, c2, φ2, rfl, hi2, s2⟩; rw [show (L, F).1.length = m from hm.out]; have I2 := Lib.hid (I1.out.call hi2); have L2 := Lib.hid hi2.le; have S2 := Lib.hid s2; clear hi2 s2)
    | (go_at_call 14; (with_reducible refine (Respond_any hD hM hM2 hB HI.out.fz HP.out HS.out hn hsz HA.out hna hR).mono ?_); rintro e w1 ⟨a1, c1, φ1, rfl, hi1, s1⟩; rw [show (L, F).1.length = m from hm.out]; have I1 := Lib.hid (HI.out.call hi1); have S1 := Lib.hid s1; have hm9 : m ≤ 9223372036854775807 := (by rw [← hm.out]; have h1 := s1.capn; have h2 := s1.capm; unfold maxLen at h2; simp only at h1; omega); clear hi1 s1))
  go_ret
  exact ⟨rfl, I3.out.bel⟩
theorem weightResponsesMatchSpec_walk (w : World) (φ : Phi) (hφ : Fz φ w) (hp : PowP φ) (a : Option Addr) (cap : Nat) (xs : List Psn) (s : SlV φ a cap xs) (g : xs.length * Tryz.prog.bytesOf 43 ≤ reachBytes ∧ ∀ x ∈ xs, GPsnR x) (aa : Option Addr) (ca : Nat) (an : List Bool) (sa : SlV φ aa ca an) (ga : an.length * Tryz.prog.bytesOf 4 ≤ reachBytes ∧ ∀ x ∈ an, True) :
    Calls Tryz.prog 5 #[.slice a xs.length cap, .slice aa an.length ca] w fun e w' => e = .returned (.bool true) ∧ Below w.heap.size w w' :=
  have hM := lenB_p (j := 200000) (k := 22223) (by decide) (by decide)
  responses_core hM (Lib.hid (div_any hM)) (Lib.hid (Rdiv_any hM)) (p10_leR (by decide)) (Lib.hid (fun h => rpB_p (by decide) h)) hφ hp s (Lib.hid rfl) (Lib.hid (psnG_ofR g.2)) sa (Lib.hid rfl)
end Go.Proofs.YtdlnhmcgnpjooaaGreatDoor
