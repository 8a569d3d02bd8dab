/- The program's exact numbers as texts: the walks of Ratio and Inverse. Conditions: the library's table of powers of ten reads as it was laid. -/
import Derived.Test.YtmlpjffnmkndoaaGreatDoorP12
import Derived.Test.YtmlpjffnmkndoaaGreatDoorPD
namespace Go.Proofs.YtmlpjffnmkndoaaGreatDoor
open Go.RowKit
set_option linter.unusedVariables false
set_option linter.unusedSimpArgs false
set_option maxHeartbeats 1000000 in
theorem PRatio_any {M : Nat} (hD : Hid (DivOk M)) (hM : LenB M) {v : Value} {x : Rat} {N D : Nat} {w : World} {φ : Phi} (hφ : Fz φ w) (hp : PowP φ) (hv : FfX φ v x N D) (hN : N ≤ M) (hDM : D ≤ M) {S T : ByteArray} {F : Int} (hR : Hid (ratR x = (S, T, F))) :
  Calls Tryz.prog 47 #[v] w (fun e w' => e = .returned (.tuple #[.agg #[.string S, .string T], .int .i64 F]) ∧ Below w.heap.size w w') := by
 obtain ⟨neg, n, d, k1, k2, a1, c1, a2, c2, rfl, s1, s2, h1, h2, hd0, hnN, hdD, hx⟩ := hv.open
 have hn : n ≤ M := Nat.le_trans hnN hN
 have hd : d ≤ M := Nat.le_trans hdD hDM
 have hI := (Inv.start hφ).alloc (.cells #[.bool neg, .slice a1 k1 c1, .slice a2 k2 c2] 70)
 have hR0 := RsSt.start hI #[.string ⟨#[]⟩, .string ⟨#[]⟩] 32
 rw [alloc_sz] at hR0
 have HR := Lib.hid hR0
 have S1 := Lib.hid s1
 have S2 := Lib.hid s2
 have HP := Lib.hid hp
 have hR2 : Hid (ratR (rat neg n d) = (S, T, F)) := Lib.hid (by rw [hx, hR.out])
 clear hφ hp hv hI hR0 s1 s2 hx hR
 go_enter Tryz.func47, Tryz.ntmps47
 go_wp2_with (go_at_call 98; (with_reducible refine (ratio_any hD hM HR.out.inv.fz HP.out S1.out S2.out h1 h2 hn hd hd0 hR2).mono ?_); rintro e w4 ⟨rfl, hb4⟩; have H4 := Lib.hid (HR.out.callB hb4); clear hb4; have r0 : w4.cell? ⟨w.heap.size + 1, 0, none⟩ = some (.string ⟨#[]⟩) := H4.out.k.cell 0; have r1 : w4.cell? ⟨w.heap.size + 1, 1, none⟩ = some (.string ⟨#[]⟩) := H4.out.k.cell 1; have r2 := H4.out.k.frz 0; have r3 := H4.out.k.frz 1)
 have hZ := Lib.hid ((H4.out.set 0 (.string S)).set 1 (.string T))
 have e0 : _ = some (Value.string S) := hZ.out.k.cell 0
 have e1 : _ = some (Value.string T) := hZ.out.k.cell 1
 (try simp only [Exit.inBlock, Exit.then])
 refine bodyPost_ret (v := .tuple #[.agg #[.string S, .string T], .int .i64 F]) (by simp [results, Tryz.results47, go_sem, e0, e1]) rfl ?_
 exact ⟨rfl, hZ.out.inv.bel⟩
end Go.Proofs.YtmlpjffnmkndoaaGreatDoor
