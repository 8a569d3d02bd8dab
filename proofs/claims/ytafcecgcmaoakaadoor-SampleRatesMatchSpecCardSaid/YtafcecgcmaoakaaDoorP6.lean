/- The program's ratios: the walks of fraction and share; the texts of small ratios. Conditions: the library's table of powers of ten reads as it was laid. -/
import Derived.Test.YtafcecgcmaoakaaDoorP5
namespace Go.Proofs.YtafcecgcmaoakaaDoor
open Go.RowKit
set_option linter.unusedVariables false
theorem lenB_one : LenB 999999999 := by have := len_le1 (n := 999999999) (Nat.le_refl _); unfold LenB; omega
theorem ratR_small {num den : Int} (hn : num.natAbs ≤ 999999999) (hd : den.natAbs ≤ 999999999) (h0 : den ≠ 0) {S T : ByteArray} {F : Int} (h : ratR ((num : Rat) / (den : Rat)) = (S, T, F)) : F = 0 ∧ S.size ≤ 10 ∧ T.size ≤ 10 := by
  rw [← rat_quot h0, ratR_eq (by omega)] at h
  generalize num.natAbs = n at *
  generalize hdd : den.natAbs = d at *
  have hd0 : 0 < d := by omega
  have g0 := gcd_dle (m := n) hd0
  have l1 := decB_len (m := n / n.gcd d) (k := (limbs (n / n.gcd d)).length) rfl
  have l2 := decB_len (m := d / n.gcd d) (k := (limbs (d / n.gcd d)).length) rfl
  have m1 := len_le1 (n := n / n.gcd d) (Nat.le_trans (Nat.div_le_self _ _) hn)
  have m2 := len_le1 (n := d / n.gcd d) (Nat.le_trans (Nat.div_le_self _ _) hd)
  have e1 : (decB (n / n.gcd d)).size ≤ 9 := by rw [decB_bl, bl_size]; exact dec_lim (Nat.lt_of_le_of_lt (Nat.le_trans (Nat.div_le_self _ _) hn) (by omega))
  have e2 : (decB (d / n.gcd d)).size ≤ 9 := by rw [decB_bl, bl_size]; exact dec_lim (Nat.lt_of_le_of_lt (Nat.le_trans (Nat.div_le_self _ _) hd) (by omega))
  rw [ratN, if_neg (by omega)] at h
  obtain ⟨hS, hTF⟩ := Prod.mk.inj h
  obtain ⟨hT, hF⟩ := Prod.mk.inj hTF
  refine ⟨hF.symm, ?_, by rw [← hT]; omega⟩
  rw [← hS]
  split
  · rw [ByteArray.size_append]; show 1 + _ ≤ 10; omega
  · omega
set_option maxRecDepth 100000 in
set_option maxHeartbeats 1000000 in
theorem fraction_any {M : Nat} (hD : Hid (DivOk M)) (hM : LenB M) {num den : Int} (b1 : -9223372036854775808 ≤ num) (b2 : num ≤ 9223372036854775807) (b3 : -9223372036854775808 ≤ den) (b4 : den ≤ 9223372036854775807) (hn : num.natAbs ≤ M) (hd : den.natAbs ≤ M) (hd0 : den ≠ 0) {w : World} {φ : Phi} (hφ : Fz φ w) (hp : PowP φ) {S T : ByteArray} {F : Int} (hR : Hid (ratR ((num : Rat) / (den : Rat)) = (S, T, F))) :
    Calls Tryd.prog 37 #[.int .i64 num, .int .i64 den] w (fun e w' => e = .returned (.agg #[.string S, .string T]) ∧ Below w.heap.size w w') := by
  have hRS := Lib.hid (RsSt.start (Inv.start hφ) #[.string ⟨#[]⟩, .string ⟨#[]⟩] 34)
  clear hφ
  go_enter Tryd.func37, Tryd.ntmps37
  go_wp2_with (go_at_call 60; refine (RatioOf_any hD hM b1 b2 b3 b4 hn hd hd0 hRS.out.inv.fz hp hR).mono ?_; rintro e w2 ⟨rfl, hb2⟩; have H2 := Lib.hid (hRS.out.callB hb2); have r0 : w2.cell? ⟨w.heap.size, 0, none⟩ = some (.string ⟨#[]⟩) := H2.out.k.cell 0; have r1 : w2.cell? ⟨w.heap.size, 1, none⟩ = some (.string ⟨#[]⟩) := H2.out.k.cell 1; have r2 := H2.out.k.frz 0; have r3 := H2.out.k.frz 1; have hlt := H2.out.k.lt)
  have hZ := Lib.hid (((H2.out.set 0 (.string S)).set 1 (.string T)).callB ((Below.refl _ _).alloc (Nat.le_refl _) (.cells #[.string S, .string T] 34)))
  have e0 : _ = some (Value.string S) := hZ.out.k.cell 0
  have e1 : _ = some (Value.string T) := hZ.out.k.cell 1
  (try simp only [Exit.inBlock, Exit.then])
  refine bodyPost_ret (v := .agg #[.string S, .string T]) (by simp [results, Tryd.results37, go_sem, e0, e1]) rfl ?_
  exact ⟨rfl, hZ.out.inv.bel⟩
set_option maxRecDepth 100000 in
set_option maxHeartbeats 1000000 in
theorem share_any {M : Nat} (hD : Hid (DivOk M)) (hM : LenB M) (hM1 : 1 ≤ M) {num den : Int} (b1 : -9223372036854775808 ≤ num) (b2 : num ≤ 9223372036854775807) (b3 : -9223372036854775808 ≤ den) (b4 : den ≤ 9223372036854775807) (hn : num.natAbs ≤ M) (hd : den.natAbs ≤ M) {w : World} {φ : Phi} (hφ : Fz φ w) (hp : PowP φ) {S T : ByteArray} {F : Int} (hR : Hid (ratR ((num : Rat) / (den : Rat)) = (S, T, F))) :
    Calls Tryd.prog 28 #[.int .i64 num, .int .i64 den] w (fun e w' => e = .returned (.agg #[.string S, .string T]) ∧ Below w.heap.size w w') := by
  have hRS := Lib.hid (RsSt.start (Inv.start hφ) #[.string ⟨#[]⟩, .string ⟨#[]⟩] 34)
  clear hφ
  by_cases h0 : den = 0
  · subst h0
    have hR0 : Hid (ratR (((0 : Int) : Rat) / ((1 : Int) : Rat)) = (S, T, F)) := Lib.hid (by
      have e := hR.out
      rw [Rat.div_def, show ((0 : Int) : Rat) = 0 from rfl, Rat.inv_zero, Rat.mul_zero] at e
      rw [Rat.div_def, show ((0 : Int) : Rat) = 0 from rfl, Rat.zero_mul]
      exact e)
    go_enter Tryd.func28, Tryd.ntmps28
    go_wp2_with (go_at_call 37; refine (fraction_any (num := 0) (den := 1) hD hM (by omega) (by omega) (by omega) (by omega) (Nat.zero_le _) hM1 (by omega) hRS.out.inv.fz hp hR0).mono ?_; rintro e w2 ⟨rfl, hb2⟩; have H2 := Lib.hid (hRS.out.callB hb2); have r0 : w2.cell? ⟨w.heap.size, 0, none⟩ = some (.string ⟨#[]⟩) := H2.out.k.cell 0; have r1 : w2.cell? ⟨w.heap.size, 1, none⟩ = some (.string ⟨#[]⟩) := H2.out.k.cell 1; have r2 := H2.out.k.frz 0; have r3 := H2.out.k.frz 1)
    have hZ := Lib.hid ((H2.out.set 0 (.string S)).set 1 (.string T))
    have e0 : _ = some (Value.string S) := hZ.out.k.cell 0
    have e1 : _ = some (Value.string T) := hZ.out.k.cell 1
    (try simp only [Exit.inBlock, Exit.then])
    refine bodyPost_ret (v := .agg #[.string S, .string T]) (by simp [results, Tryd.results28, go_sem, e0, e1]) rfl ?_
    exact ⟨rfl, hZ.out.inv.bel⟩
  · have hg : ((den : Int) == 0) = false := by simp [h0]
    have H0 := Lib.hid h0
    clear h0
    go_enter Tryd.func28, Tryd.ntmps28
    go_wp2_with (go_at_call 37; refine (fraction_any hD hM b1 b2 b3 b4 hn hd H0.out hRS.out.inv.fz hp hR).mono ?_; rintro e w2 ⟨rfl, hb2⟩; have H2 := Lib.hid (hRS.out.callB hb2); have r0 : w2.cell? ⟨w.heap.size, 0, none⟩ = some (.string ⟨#[]⟩) := H2.out.k.cell 0; have r1 : w2.cell? ⟨w.heap.size, 1, none⟩ = some (.string ⟨#[]⟩) := H2.out.k.cell 1; have r2 := H2.out.k.frz 0; have r3 := H2.out.k.frz 1)
    have hZ := Lib.hid ((H2.out.set 0 (.string S)).set 1 (.string T))
    have e0 : _ = some (Value.string S) := hZ.out.k.cell 0
    have e1 : _ = some (Value.string T) := hZ.out.k.cell 1
    (try simp only [Exit.inBlock, Exit.then])
    refine bodyPost_ret (v := .agg #[.string S, .string T]) (by simp [results, Tryd.results28, go_sem, e0, e1]) rfl ?_
    exact ⟨rfl, hZ.out.inv.bel⟩
end Go.Proofs.YtafcecgcmaoakaaDoor
