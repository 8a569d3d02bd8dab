/- The program's exact numbers: the walk of lowest. Conditions: none beyond what the claim form gives. -/
import Derived.Test.YtafcecgcmaoakaaDoorP1
namespace Go.Proofs.YtafcecgcmaoakaaDoor
open Go.RowKit
set_option linter.unusedVariables false
/-- An exact number of the program's, handed back. -/
def FrP (neg : Bool) (n d : Nat) (φ : Phi) (w : World) (e : Ending) (w' : World) : Prop :=
  ∃ a1 c1 a2 c2 φ', e = .returned (.agg #[.bool neg, .slice a1 (limbs n).length c1, .slice a2 (limbs d).length c2]) ∧ Inv w.heap.size w φ φ' w' ∧ SlV φ' a1 c1 (limbs n) ∧ SlV φ' a2 c2 (limbs d)
set_option maxRecDepth 100000 in
set_option maxHeartbeats 2000000 in
theorem lowest_any {M : Nat} (hD : Hid (DivOk M)) {neg : Bool} {n d k1 k2 : Nat} {a1 a2 : Option Addr} {c1 c2 : Nat} {w : World} {φ : Phi} (hφ : Fz φ w) (s1 : SlV φ a1 c1 (limbs n)) (s2 : SlV φ a2 c2 (limbs d)) (h1 : Hid ((limbs n).length = k1)) (h2 : Hid ((limbs d).length = k2)) (hn : n ≤ M) (hd : d ≤ M) (hd0 : 0 < d) :
    Calls Tryd.prog 110 #[.agg #[.bool neg, .slice a1 k1 c1, .slice a2 k2 c2]] w (FrP (neg && decide (n / Nat.gcd n d ≠ 0)) (n / Nat.gcd n d) (d / Nat.gcd n d) φ w) := by
  have hBX0 := RsSt.start (Inv.start hφ) #[.bool neg, .slice a1 k1 c1, .slice a2 k2 c2] 120
  have hRS0 := RsSt.start hBX0.inv #[.bool false, .slice none 0 0, .slice none 0 0] 120
  have hBX := Lib.hid (hBX0.callB ((Below.refl _ _).alloc (Nat.le_refl _) (.cells #[.bool false, .slice none 0 0, .slice none 0 0] 120)))
  rw [alloc_sz] at hRS0
  have hRS := Lib.hid hRS0
  clear hBX0 hRS0
  obtain ⟨g, hg⟩ : ∃ g, Hid (Nat.gcd n d = g) := ⟨_, Lib.hid rfl⟩
  rw [hg.out]
  have hg0 : 0 < g := by rw [← hg.out]; exact gcd_dle hd0
  have hgM : g ≤ M := by rw [← hg.out]; exact Nat.le_trans (Nat.gcd_le_right _ hd0) hd
  obtain ⟨kg, hkg⟩ : ∃ k, Hid ((limbs g).length = k) := ⟨_, Lib.hid rfl⟩
  obtain ⟨q1, hq1⟩ : ∃ k, Hid ((limbs (n / g)).length = k) := ⟨_, Lib.hid rfl⟩
  obtain ⟨q2, hq2⟩ : ∃ k, Hid ((limbs (d / g)).length = k) := ⟨_, Lib.hid rfl⟩
  have S1 := Lib.hid s1
  have S2 := Lib.hid s2
  obtain ⟨ng, hng⟩ : ∃ b, Hid ((neg && decide (n / g ≠ 0)) = b) := ⟨_, Lib.hid rfl⟩
  rw [hng.out]
  clear s1 s2 hφ
  have hsg : Hid ((neg = false ∧ ng = false) ∨ (neg = true ∧ q1 = 0 ∧ ng = false) ∨ (neg = true ∧ 0 < q1 ∧ ng = true)) := by
    refine Lib.hid ?_
    have e := hng.out
    cases neg
    · exact .inl ⟨rfl, by rw [← e]; rfl⟩
    · by_cases h0 : q1 = 0
      · have : n / g = 0 := limbs_len0.1 (by rw [hq1.out]; exact h0)
        exact .inr (.inl ⟨rfl, h0, by rw [← e, this]; rfl⟩)
      · have : n / g ≠ 0 := fun e2 => h0 (by rw [← hq1.out, e2, limbs_zero]; rfl)
        exact .inr (.inr ⟨rfl, by omega, by rw [← e, decide_eq_true this]; rfl⟩)
  go_enter Tryd.func110, Tryd.ntmps110
  obtain ⟨bb, hbb⟩ : ∃ b, Hid (w.heap.size = b) := ⟨_, Lib.hid rfl⟩
  rw [hbb.out] at hBX hRS
  go_wp2_with (first
      | (go_at_call 136; rw [hbb.out]; refine (gcd_any hD hRS.out.inv.fz S1.out S2.out h1 h2 hn hd).mono ?_; rintro e w1 ⟨ag, cg, φ2, rfl, hi2, hs2⟩; rw [hg.out, hkg.out]; rw [hg.out] at hs2; have X2 := Lib.hid (hBX.out.call hi2); have H2 := Lib.hid (hRS.out.call hi2); have L2 := Lib.hid hi2.le; have SG := Lib.hid hs2; have x0 : w1.cell? ⟨bb, 0, none⟩ = some (.bool neg) := X2.out.k.cell 0; have x1 : w1.cell? ⟨bb, 1, none⟩ = some (.slice a1 k1 c1) := X2.out.k.cell 1; have x2 : w1.cell? ⟨bb, 2, none⟩ = some (.slice a2 k2 c2) := X2.out.k.cell 2; clear hi2 hs2)
      | (go_at_call 137; (refine (hD.out d g k2 kg a2 ag c2 cg _ φ3 (X3.out.set 1 (.slice a3 q1 c3)).inv.fz (S2.out.mono (L2.out.trans L3.out)) SG3.out h2 hkg hd hgM hg0).mono ?_); rintro e w4 ⟨a5, c5, a6, c6, φ4, rfl, hi4, hs5, hs6⟩; rw [hq2.out]; have X4 := Lib.hid ((X3.out.set 1 (.slice a3 q1 c3)).call hi4); have H4 := Lib.hid ((H3.out.oth X3.out (by omega) 1 (.slice a3 q1 c3)).call hi4); have SN4 := Lib.hid (SN.out.mono hi4.le); have SD := Lib.hid hs5; have z0 : w4.cell? ⟨bb, 0, none⟩ = some (.bool neg) := X4.out.k.cell 0; have z1 : w4.cell? ⟨bb, 1, none⟩ = some (.slice a3 q1 c3) := X4.out.k.cell 1; have z2 : w4.cell? ⟨bb, 2, none⟩ = some (.slice a2 k2 c2) := X4.out.k.cell 2; have z3 := X4.out.k.frz 0; have z4 := X4.out.k.frz 1; have z5 := X4.out.k.frz 2; obtain ⟨v0, v1, v2, v3, v4, v5⟩ := H4.out.facts; clear hi4 hs5 hs6 y0 y1 y2 y3 y4 y5)
      | (go_at_call 137; (refine (hD.out n g k1 kg a1 ag c1 cg _ φ2 X2.out.inv.fz (S1.out.mono L2.out) SG.out h1 hkg hn hgM hg0).mono ?_); rintro e w3 ⟨a3, c3, a4, c4, φ3, rfl, hi3, hs3, hs4⟩; rw [hq1.out]; have X3 := Lib.hid (X2.out.call hi3); have H3 := Lib.hid (H2.out.call hi3); have L3 := Lib.hid hi3.le; have SG3 := Lib.hid (SG.out.mono hi3.le); have SN := Lib.hid hs3; have y0 : w3.cell? ⟨bb, 0, none⟩ = some (.bool neg) := X3.out.k.cell 0; have y1 : w3.cell? ⟨bb, 1, none⟩ = some (.slice a1 k1 c1) := X3.out.k.cell 1; have y2 : w3.cell? ⟨bb, 2, none⟩ = some (.slice a2 k2 c2) := X3.out.k.cell 2; have y3 := X3.out.k.frz 0; have y4 := X3.out.k.frz 1; have y5 := X3.out.k.frz 2; clear hi3 hs3 hs4 x0 x1 x2))
  all_goals first
    | (have hv : decide (0 < q1) = ng := by
         rcases hsg.out with ⟨h, h'⟩ | ⟨h, h', h''⟩ | ⟨h, h', h''⟩
         · exact absurd h (by simp [*])
         · rw [h', h'']; rfl
         · rw [h'']; exact decide_eq_true h'
       have hXA := X4.out.set 2 (.slice a5 q2 c5)
       have hHA := H4.out.oth X4.out (by omega) 2 (.slice a5 q2 c5)
       have hHB := hHA.oth hXA (by omega) 0 (.bool (decide (0 < q1)))
       have hZ := Lib.hid (((hHB.set 0 (.bool (decide (0 < q1)))).set 1 (.slice a3 q1 c3)).set 2 (.slice a5 q2 c5))
       have e0 : _ = some (Value.bool (decide (0 < q1))) := hZ.out.k.cell 0
       have e1 : _ = some (Value.slice a3 q1 c3) := hZ.out.k.cell 1
       have e2 : _ = some (Value.slice a5 q2 c5) := hZ.out.k.cell 2
       refine bodyPost_ret (v := .agg #[(.bool (decide (0 < q1))), (.slice a3 q1 c3), (.slice a5 q2 c5)]) (by simp [results, Tryd.results110, go_sem, e0, e1, e2]) rfl ?_
       exact ⟨a3, c3, a5, c5, φ4, by rw [hq1.out, hq2.out, hv], hZ.out.inv, SN4.out, SD.out⟩
       )
    | (have hv : false = ng := by
         rcases hsg.out with ⟨h, h'⟩ | ⟨h, h', h''⟩ | ⟨h, h', h''⟩
         · exact h'.symm
         · exact h''.symm
         · exact absurd h (by assumption)
       have hXA := X4.out.set 2 (.slice a5 q2 c5)
       have hHA := H4.out.oth X4.out (by omega) 2 (.slice a5 q2 c5)
       have hHB := hHA.oth hXA (by omega) 0 (.bool false)
       have hZ := Lib.hid (((hHB.set 0 (.bool false)).set 1 (.slice a3 q1 c3)).set 2 (.slice a5 q2 c5))
       have e0 : _ = some (Value.bool false) := hZ.out.k.cell 0
       have e1 : _ = some (Value.slice a3 q1 c3) := hZ.out.k.cell 1
       have e2 : _ = some (Value.slice a5 q2 c5) := hZ.out.k.cell 2
       refine bodyPost_ret (v := .agg #[(.bool false), (.slice a3 q1 c3), (.slice a5 q2 c5)]) (by simp [results, Tryd.results110, go_sem, e0, e1, e2]) rfl ?_
       exact ⟨a3, c3, a5, c5, φ4, by rw [hq1.out, hq2.out, hv], hZ.out.inv, SN4.out, SD.out⟩
       )
end Go.Proofs.YtafcecgcmaoakaaDoor
