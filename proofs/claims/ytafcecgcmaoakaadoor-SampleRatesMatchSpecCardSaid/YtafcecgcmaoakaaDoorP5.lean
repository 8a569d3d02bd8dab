/- The program's ratios: the walks of RatioOf. Conditions: the library's table of powers of ten reads as it was laid. -/
import Derived.Test.YtafcecgcmaoakaaDoorP4
namespace Go.Proofs.YtafcecgcmaoakaaDoor
open Go.RowKit
set_option linter.unusedVariables false
theorem sgn_of (n : Int) : sgn (decide (n < 0)) n.natAbs = n := by
  unfold sgn
  by_cases h : n < 0
  · rw [decide_eq_true h, if_pos rfl]; omega
  · rw [decide_eq_false h, if_neg (by simp)]; omega
theorem rat_quot {num den : Int} (h : den ≠ 0) : rat (!(decide (num < 0) == decide (den < 0))) num.natAbs den.natAbs = (num : Rat) / (den : Rat) := by
  have := rat_over (s1 := decide (num < 0)) (s2 := decide (den < 0)) (n1 := num.natAbs) (d1 := 1) (n2 := den.natAbs) (d2 := 1) (by omega) (by omega) (by omega)
  rw [rat_one, rat_one, sgn_of, sgn_of, Nat.mul_one, Nat.one_mul] at this
  exact this
set_option maxRecDepth 100000 in
set_option maxHeartbeats 2000000 in
theorem RatioOf_any {M : Nat} (hD : Hid (DivOk M)) (hM : LenB M) {num den : Int} (b1 : -9223372036854775808 ≤ num) (b2 : num ≤ 9223372036854775807) (b3 : -9223372036854775808 ≤ den) (b4 : den ≤ 9223372036854775807) (hn : num.natAbs ≤ M) (hd : den.natAbs ≤ M) (hd0 : den ≠ 0) {w : World} {φ : Phi} (hφ : Fz φ w) (hp : PowP φ) {S T : ByteArray} {F : Int} (hR : Hid (ratR ((num : Rat) / (den : Rat)) = (S, T, F))) :
    Calls Tryd.prog 60 #[.int .i64 num, .int .i64 den] w (fun e w' => e = .returned (.tuple #[.agg #[.string S, .string T], .int .i64 F]) ∧ Below w.heap.size w w') := by
  have hRS := Lib.hid (RsSt.start (Inv.start hφ) #[.string ⟨#[]⟩, .string ⟨#[]⟩] 34)
  have hR2 : Hid (ratR (rat (!(decide (num < 0) == decide (den < 0))) num.natAbs den.natAbs) = (S, T, F)) := Lib.hid (by rw [rat_quot hd0, hR.out])
  have hdp : 0 < den.natAbs := by omega
  have hl1 : num.natAbs < 18446744073709551616 := by omega
  have hl2 : den.natAbs < 18446744073709551616 := by omega
  have hg : ((den : Int) == 0) = false := by simp [hd0]
  have HP := Lib.hid hp
  obtain ⟨n, hN⟩ : ∃ n, num.natAbs = n := ⟨_, rfl⟩
  obtain ⟨d, hDn⟩ : ∃ n, den.natAbs = n := ⟨_, rfl⟩
  have HN := Lib.hid hN
  have HDN := Lib.hid hDn
  rw [hN, hDn] at hR2
  rw [hN] at hn hl1
  rw [hDn] at hd hl2 hdp
  obtain ⟨q1, hq1⟩ : ∃ k, Hid ((limbs n).length = k) := ⟨_, Lib.hid rfl⟩
  obtain ⟨q2, hq2⟩ : ∃ k, Hid ((limbs d).length = k) := ⟨_, Lib.hid rfl⟩
  clear hR hφ hp hd0 hN hDn
  go_enter Tryd.func60, Tryd.ntmps60
  go_wp2_with (first
    | (go_at_call 78; first | ((with_reducible refine (magnitude_any num b1 b2 _).mono ?_); rintro e w' ⟨rfl, rfl⟩; rw [HN.out]) | ((with_reducible refine (magnitude_any den b3 b4 _).mono ?_); rintro e w' ⟨rfl, rfl⟩; rw [HDN.out]))
    | (go_at_call 77; (with_reducible refine (small_any d hl2 _ φ2 H2.out.inv.fz).mono ?_); rintro e w3 ⟨a4, c4, φ3, rfl, hi3, hs3⟩; rw [hq2.out]; have H3 := Lib.hid (H2.out.call hi3); have SB := Lib.hid hs3; have SA3 := Lib.hid (SA.out.mono hi3.le); have L3 := Lib.hid (L2.out.trans hi3.le); clear hi3 hs3)
    | (go_at_call 77; (with_reducible refine (small_any n hl1 _ φ hRS.out.inv.fz).mono ?_); rintro e w2 ⟨a3, c3, φ2, rfl, hi2, hs2⟩; rw [hq1.out]; have H2 := Lib.hid (hRS.out.call hi2); have SA := Lib.hid hs2; have L2 := Lib.hid hi2.le; clear hi2 hs2)
    | (go_at_call 79; refine (ratio_any hD hM H3.out.inv.fz (HP.out.mono L3.out) SA3.out SB.out hq1 hq2 hn hd hdp hR2).mono ?_; rintro e w4 ⟨rfl, hb4⟩; have H4 := Lib.hid (H3.out.callB hb4); clear hb4; have r0 : w4.cell? ⟨w.heap.size, 0, none⟩ = some (.string ⟨#[]⟩) := H4.out.k.cell 0; have r1 : w4.cell? ⟨w.heap.size, 1, none⟩ = some (.string ⟨#[]⟩) := H4.out.k.cell 1; have r2 := H4.out.k.frz 0; have r3 := H4.out.k.frz 1))
  have hZ := Lib.hid ((H4.out.set 0 (.string S)).set 1 (.string T))
  have e0 : _ = some (Value.string S) := hZ.out.k.cell 0
  have e1 : _ = some (Value.string T) := hZ.out.k.cell 1
  (try simp only [Exit.inBlock, Exit.then])
  refine bodyPost_ret (v := .tuple #[.agg #[.string S, .string T], .int .i64 F]) (by simp [results, Tryd.results60, go_sem, e0, e1]) rfl ?_
  exact ⟨rfl, hZ.out.inv.bel⟩
end Go.Proofs.YtafcecgcmaoakaaDoor
