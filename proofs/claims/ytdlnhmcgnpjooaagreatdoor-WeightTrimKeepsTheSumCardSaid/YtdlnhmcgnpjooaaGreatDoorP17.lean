/- The program's exact numbers as texts: the walks of Ratio and Inverse. Conditions: the library's table of powers of ten reads as it was laid. -/
import Derived.Test.YtdlnhmcgnpjooaaGreatDoorP12
import Derived.Test.YtdlnhmcgnpjooaaGreatDoorPD
namespace Go.Proofs.YtdlnhmcgnpjooaaGreatDoor
open Go.RowKit
set_option linter.unusedVariables false
set_option linter.unusedSimpArgs false
set_option maxHeartbeats 1000000 in
theorem PRatio_any {M : Nat} (hD : Hid (DivOk M)) (hM : LenB M) {v : Value} {x : Rat} {N D : Nat} {w : World} {φ : Phi} (hφ : Fz φ w) (hp : PowP φ) (hv : FfX φ v x N D) (hN : N ≤ M) (hDM : D ≤ M) {S T : ByteArray} {F : Int} (hR : Hid (ratR x = (S, T, F))) :
    Calls Tryz.prog 73 #[v] w (fun e w' => e = .returned (.tuple #[.agg #[.string S, .string T], .int .i64 F]) ∧ Below w.heap.size w w') := by
  obtain ⟨neg, n, d, k1, k2, a1, c1, a2, c2, rfl, s1, s2, h1, h2, hd0, hnN, hdD, hx⟩ := hv.open
  have hn : n ≤ M := Nat.le_trans hnN hN
  have hd : d ≤ M := Nat.le_trans hdD hDM
  have hI := (Inv.start hφ).alloc (.cells #[.bool neg, .slice a1 k1 c1, .slice a2 k2 c2] 63)
  have hR0 := RsSt.start hI #[.string ⟨#[]⟩, .string ⟨#[]⟩] 29
  rw [alloc_sz] at hR0
  have HR := Lib.hid hR0
  have S1 := Lib.hid s1
  have S2 := Lib.hid s2
  have HP := Lib.hid hp
  have hR2 : Hid (ratR (rat neg n d) = (S, T, F)) := Lib.hid (by rw [hx, hR.out])
  clear hφ hp hv hI hR0 s1 s2 hx hR
  go_enter Tryz.func73, Tryz.ntmps73
  go_wp2_with (go_at_call 65; (with_reducible refine (ratio_any hD hM HR.out.inv.fz HP.out S1.out S2.out h1 h2 hn hd hd0 hR2).mono ?_); rintro e w4 ⟨rfl, hb4⟩; have H4 := Lib.hid (HR.out.callB hb4); clear hb4; have r0 : w4.cell? ⟨w.heap.size + 1, 0, none⟩ = some (.string ⟨#[]⟩) := H4.out.k.cell 0; have r1 : w4.cell? ⟨w.heap.size + 1, 1, none⟩ = some (.string ⟨#[]⟩) := H4.out.k.cell 1; have r2 := H4.out.k.frz 0; have r3 := H4.out.k.frz 1)
  have hZ := Lib.hid ((H4.out.set 0 (.string S)).set 1 (.string T))
  have e0 : _ = some (Value.string S) := hZ.out.k.cell 0
  have e1 : _ = some (Value.string T) := hZ.out.k.cell 1
  (try simp only [Exit.inBlock, Exit.then])
  refine bodyPost_ret (v := .tuple #[.agg #[.string S, .string T], .int .i64 F]) (by simp [results, Tryz.results73, go_sem, e0, e1]) rfl ?_
  exact ⟨rfl, hZ.out.inv.bel⟩
theorem rat_inv {neg : Bool} {n d : Nat} (hn : 0 < n) (hd : 0 < d) : rat neg d n = 1 / rat neg n d := by
  have := rat_over (s1 := false) (n1 := 1) (d1 := 1) (s2 := neg) (n2 := n) (d2 := d) (by decide) hd hn
  rw [Nat.one_mul, Nat.one_mul] at this
  have e : rat false 1 1 = 1 := by rw [rat_one]; rfl
  rw [e] at this
  rw [← this]
  cases neg <;> rfl
set_option maxHeartbeats 1000000 in
theorem Inverse_any {M : Nat} (hD : Hid (DivOk M)) (hM : LenB M) (hM2 : p10 2000 ≤ M) {n d : ByteArray} (hn : n.size ≤ 9223372036854775807) (hd : d.size ≤ 9223372036854775807) (hf : Hid (ratF n d = 0)) (hx0 : ratX n d ≠ 0) {w : World} {φ : Phi} (hφ : Fz φ w) (hp : PowP φ) {S T : ByteArray} {F : Int} (hR : Hid (ratR (1 / ratX n d) = (S, T, F))) :
    Calls Tryz.prog 31 #[.agg #[.string n, .string d]] w (fun e w' => e = .returned (.tuple #[.agg #[.string S, .string T], .int .i64 F]) ∧ Below w.heap.size w w') := by
  have HM := Lib.hid hM2
  have hok := ratF_ok hf.out
  have l1 : dV (bodyB n).data.toList ≤ M := by
    have h3 := hok.num_lt
    have h4 := p10_mono hok.s1
    omega
  have l2 : dV d.data.toList ≤ M := by
    have h3 := hok.den_lt
    have h4 := p10_mono hok.s2
    omega
  obtain ⟨x, hx⟩ : ∃ x, ratX n d = x := ⟨_, rfl⟩
  obtain ⟨N, hN⟩ : ∃ x, dV (bodyB n).data.toList = x := ⟨_, rfl⟩
  obtain ⟨D, hDn⟩ : ∃ x, dV d.data.toList = x := ⟨_, rfl⟩
  rw [hN] at l1
  rw [hDn] at l2
  rw [hx] at hx0 hR
  have HX := Lib.hid hx
  have HN := Lib.hid hN
  have HDN := Lib.hid hDn
  have HX0 := Lib.hid hx0
  have HP := Lib.hid hp
  have hI := (Inv.start hφ).alloc (.cells #[.string n, .string d] 29)
  have hR0 := RsSt.start hI #[.string ⟨#[]⟩, .string ⟨#[]⟩] 29
  rw [alloc_sz] at hR0
  have HR := Lib.hid hR0
  clear hok hM2 hφ hI hR0 hx hN hDn hx0 hp
  go_enter Tryz.func31, Tryz.ntmps31
  go_upto_region 2 with (go_at_call 62; (with_reducible refine (fracOf_any hD HM.out hn hd HR.out.inv.fz).mono ?_); rintro e w1 ⟨v, f', φ1, rfl, rfl, hi, hv, a1, b1, n1, c1, b2, n2, c2, rfl⟩; rw [HX.out, HN.out, HDN.out, hf.out] at hv; rw [hf.out]; have HV := Lib.hid (hv rfl); have H1 := Lib.hid (HR.out.call hi); clear hi hv)
  obtain ⟨neg, m, dd, k1, k2, a3, c3, a4, c4, he, s1, s2, h1, h2, hd0, hmN, hdD, hxx⟩ := HV.out.open
  have hm0 : 0 < m := by
    rcases Nat.eq_zero_or_pos m with q | q
    · exact absurd ((rat_zero_iff hd0 hxx).2 q) HX0.out
    · exact q
  have hk0 : ¬ k1 = 0 := fun e => by
    have := limbs_len0.1 (by rw [h1.out]; exact e : (limbs m).length = 0)
    omega
  injection he with he
  injection he with he
  injection he with g1 he
  injection he with g2 he
  injection he with g3 he
  injection g1 with g1
  injection g2 with g21 g22 g23
  injection g3 with g31 g32 g33
  subst g1 g21 g22 g23 g31 g32 g33
  have hR2 : Hid (ratR (rat a1 dd m) = (S, T, F)) := Lib.hid (by rw [rat_inv hm0 hd0, hxx, hR.out])
  have hkb : ((n1 : Int) == 0) = false := by simp; omega
  have S1 := Lib.hid s1
  have S2 := Lib.hid s2
  have HP1 := Lib.hid (HP.out.mono H1.out.inv.le)
  have H2 := Lib.hid (H1.out.callB ((Below.refl _ _).alloc (Nat.le_refl _) (.cells #[.bool a1, .slice b1 n1 c1, .slice b2 n2 c2] 61)))
  have hl1 : m ≤ M := by omega
  have hl2 : dd ≤ M := by omega
  clear H1 hd0 hmN hdD hxx hk0 s1 s2 HV
  go_wp2_with (go_at_call 65; (with_reducible refine (ratio_any hD hM H2.out.inv.fz HP1.out S2.out S1.out h2 h1 hl2 hl1 hm0 hR2).mono ?_); rintro e w4 ⟨rfl, hb4⟩; have H4 := Lib.hid (H2.out.callB hb4); clear hb4; have r0 : w4.cell? ⟨w.heap.size + 1, 0, none⟩ = some (.string ⟨#[]⟩) := H4.out.k.cell 0; have r1 : w4.cell? ⟨w.heap.size + 1, 1, none⟩ = some (.string ⟨#[]⟩) := H4.out.k.cell 1; have r2 := H4.out.k.frz 0; have r3 := H4.out.k.frz 1)
  have hZ := Lib.hid ((H4.out.set 0 (.string S)).set 1 (.string T))
  have e0 : _ = some (Value.string S) := hZ.out.k.cell 0
  have e1 : _ = some (Value.string T) := hZ.out.k.cell 1
  (try simp only [Exit.inBlock, Exit.then])
  refine bodyPost_ret (v := .tuple #[.agg #[.string S, .string T], .int .i64 F]) (by simp [results, Tryz.results31, go_sem, e0, e1]) rfl ?_
  exact ⟨rfl, hZ.out.inv.bel⟩
end Go.Proofs.YtdlnhmcgnpjooaaGreatDoor
