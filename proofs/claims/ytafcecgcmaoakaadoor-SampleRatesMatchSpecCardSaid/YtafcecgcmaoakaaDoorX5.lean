/- The law SampleRatesMatchSpec's walk. Conditions: the library's table of powers of ten reads as it was laid. -/
import Derived.Test.YtafcecgcmaoakaaDoorX4
namespace Go.Proofs.YtafcecgcmaoakaaDoor
open Go.RowKit
set_option linter.unusedVariables false
theorem ratesR_14 (xs : List Int) : ∃ s1 s2 s3 s4 s5 s6 s7 s8 s9 s10 s11 s12 s13 s14, (ratesR xs).1 = [s1, s2, s3, s4, s5, s6, s7, s8, s9, s10, s11, s12, s13, s14] := by
  unfold ratesR
  split
  · exact ⟨_, _, _, _, _, _, _, _, _, _, _, _, _, _, rfl⟩
  · exact ⟨_, _, _, _, _, _, _, _, _, _, _, _, _, _, rfl⟩
set_option maxRecDepth 100000 in
set_option maxHeartbeats 4000000 in
theorem rates_core {n : Nat} {a : Option Addr} {cap : Nat} {xs : List Int} {w : World} {φ : Phi} (hφ : Fz φ w) (hp : PowP φ) (s : SlV φ a cap xs) (hn : Hid (xs.length = n)) (hm : n ≤ 9223372036854775807) :
    Calls Tryd.prog 4 #[.slice a n cap] w (fun e w' => e = .returned (.bool true) ∧ Below w.heap.size w w') := by
  obtain ⟨F, hF⟩ : ∃ F, (ratesR xs).2 = F := ⟨_, rfl⟩
  obtain ⟨s1, s2, s3, s4, s5, s6, s7, s8, s9, s10, s11, s12, s13, s14, hS⟩ := ratesR_14 xs
  have hR : Hid (ratesR xs = ([s1, s2, s3, s4, s5, s6, s7, s8, s9, s10, s11, s12, s13, s14], F)) := Lib.hid (by rw [← hS, ← hF])
  clear hS hF
  have gF : (F == F) = true := by simp
  have g1 : (s1.toList == s1.toList) = true := str_eq_t rfl
  have g2 : (s2.toList == s2.toList) = true := str_eq_t rfl
  have g3 : (s3.toList == s3.toList) = true := str_eq_t rfl
  have g4 : (s4.toList == s4.toList) = true := str_eq_t rfl
  have g5 : (s5.toList == s5.toList) = true := str_eq_t rfl
  have g6 : (s6.toList == s6.toList) = true := str_eq_t rfl
  have g7 : (s7.toList == s7.toList) = true := str_eq_t rfl
  have g8 : (s8.toList == s8.toList) = true := str_eq_t rfl
  have g9 : (s9.toList == s9.toList) = true := str_eq_t rfl
  have g10 : (s10.toList == s10.toList) = true := str_eq_t rfl
  have g11 : (s11.toList == s11.toList) = true := str_eq_t rfl
  have g12 : (s12.toList == s12.toList) = true := str_eq_t rfl
  have g13 : (s13.toList == s13.toList) = true := str_eq_t rfl
  have g14 : (s14.toList == s14.toList) = true := str_eq_t rfl
  have HI := Lib.hid (Inv.start hφ)
  go_enter Tryd.func4, Tryd.ntmps4
  go_wp2_with fail
  refine (Rates_any hφ hp s hn hm hR).mono ?_
  rintro e w1 ⟨rfl, hb1⟩
  have I1 := Lib.hid (HI.out.callB hb1)
  clear hb1
  rw [show strsA [s1, s2, s3, s4, s5, s6, s7, s8, s9, s10, s11, s12, s13, s14] = #[.string s1, .string s2, .string s3, .string s4, .string s5, .string s6, .string s7, .string s8, .string s9, .string s10, .string s11, .string s12, .string s13, .string s14] from rfl]
  go_wp2_with fail
  have I2 := Lib.hid (I1.out.alloc (.cells #[.string s1, .string s2, .string s3, .string s4, .string s5, .string s6, .string s7, .string s8, .string s9, .string s10, .string s11, .string s12, .string s13, .string s14] 36))
  have B2 := Lib.hid (Blk.new w1 #[.string s1, .string s2, .string s3, .string s4, .string s5, .string s6, .string s7, .string s8, .string s9, .string s10, .string s11, .string s12, .string s13, .string s14] 36)
  refine (RRates_any I2.out.fz hp s hn hm hR).mono ?_
  rintro e w3 ⟨rfl, hb3⟩
  rw [show strsA [s1, s2, s3, s4, s5, s6, s7, s8, s9, s10, s11, s12, s13, s14] = #[.string s1, .string s2, .string s3, .string s4, .string s5, .string s6, .string s7, .string s8, .string s9, .string s10, .string s11, .string s12, .string s13, .string s14] from rfl]
  have I3 := Lib.hid (I2.out.callB hb3)
  have B3 := Lib.hid (B2.out.callB hb3)
  have z0 : w3.cell? ⟨w1.heap.size, 0, none⟩ = some (.string s1) := B3.out.cell 0
  have z1 : w3.cell? ⟨w1.heap.size, 1, none⟩ = some (.string s2) := B3.out.cell 1
  have z2 : w3.cell? ⟨w1.heap.size, 2, none⟩ = some (.string s3) := B3.out.cell 2
  have z3 : w3.cell? ⟨w1.heap.size, 3, none⟩ = some (.string s4) := B3.out.cell 3
  have z4 : w3.cell? ⟨w1.heap.size, 4, none⟩ = some (.string s5) := B3.out.cell 4
  have z5 : w3.cell? ⟨w1.heap.size, 5, none⟩ = some (.string s6) := B3.out.cell 5
  have z6 : w3.cell? ⟨w1.heap.size, 6, none⟩ = some (.string s7) := B3.out.cell 6
  have z7 : w3.cell? ⟨w1.heap.size, 7, none⟩ = some (.string s8) := B3.out.cell 7
  have z8 : w3.cell? ⟨w1.heap.size, 8, none⟩ = some (.string s9) := B3.out.cell 8
  have z9 : w3.cell? ⟨w1.heap.size, 9, none⟩ = some (.string s10) := B3.out.cell 9
  have z10 : w3.cell? ⟨w1.heap.size, 10, none⟩ = some (.string s11) := B3.out.cell 10
  have z11 : w3.cell? ⟨w1.heap.size, 11, none⟩ = some (.string s12) := B3.out.cell 11
  have z12 : w3.cell? ⟨w1.heap.size, 12, none⟩ = some (.string s13) := B3.out.cell 12
  have z13 : w3.cell? ⟨w1.heap.size, 13, none⟩ = some (.string s14) := B3.out.cell 13
  have hlt := B3.out.lt
  clear hb3
  go_wp2
  go_ret
  exact ⟨rfl, (I3.out.alloc _).bel⟩
theorem sampleRatesMatchSpec_walk (w : World) (φ : Phi) (hφ : Fz φ w) (hp : PowP φ) (a : Option Addr) (cap : Nat) (xs : List Int) (s : SlV φ a cap xs) (g : xs.length * 8 ≤ reachBytes ∧ ∀ x ∈ xs, IsI64 x) :
    Calls Tryd.prog 4 #[.slice a xs.length cap] w fun e w' => e = .returned (.bool true) ∧ Below w.heap.size w w' :=
  rates_core hφ hp s (Lib.hid rfl) (by have := s.capn; have := s.capm; unfold maxLen at this; omega)
end Go.Proofs.YtafcecgcmaoakaaDoor
