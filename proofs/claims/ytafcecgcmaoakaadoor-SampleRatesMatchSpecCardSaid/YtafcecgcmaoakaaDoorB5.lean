/- The reference's exact numbers: words, and the walks of lowest and reduced. Conditions: none beyond what the claim form gives. -/
import Derived.Test.YtafcecgcmaoakaaDoorB4
namespace Go.Proofs.YtafcecgcmaoakaaDoor
open Go.RowKit
set_option linter.unusedVariables false
/-- An exact number of the reference's, handed back. -/
def FrI (neg : Bool) (n d : Nat) (φ : Phi) (w : World) (e : Ending) (w' : World) : Prop :=
  ∃ a1 c1 a2 c2 φ', e = .returned (.agg #[.bool neg, .slice a1 (limbs n).length c1, .slice a2 (limbs d).length c2]) ∧ Inv w.heap.size w φ φ' w' ∧ SlV φ' a1 c1 (limbs n) ∧ SlV φ' a2 c2 (limbs d)
set_option maxRecDepth 100000 in
set_option maxHeartbeats 2000000 in
theorem Rlowest_any {M : Nat} (hD : Hid (RdivOk M)) {neg : Bool} {n d k1 k2 : Nat} {a1 a2 : Option Addr} {c1 c2 : Nat} {w : World} {φ : Phi} (hφ : Fz φ w) (s1 : SlV φ a1 c1 (limbs n)) (s2 : SlV φ a2 c2 (limbs d)) (h1 : Hid ((limbs n).length = k1)) (h2 : Hid ((limbs d).length = k2)) (hn : n ≤ M) (hd : d ≤ M) (hd0 : 0 < d) (hM : LenB M) :
    Calls Tryd.prog 61 #[.agg #[.bool neg, .slice a1 k1 c1, .slice a2 k2 c2]] w (FrI (neg && decide (n / Nat.gcd n d ≠ 0)) (n / Nat.gcd n d) (d / Nat.gcd n d) φ w) := by
  obtain ⟨φ1, hle1, hi1, hb1⟩ := (Inv.start hφ).frz (.cells #[.bool neg, .slice a1 k1 c1, .slice a2 k2 c2] 68)
  have hRS := Lib.hid (RsSt.start hi1 #[.bool false, .slice none 0 0, .slice none 0 0] 68)
  rw [alloc_sz] at hRS
  obtain ⟨g, hg⟩ : ∃ g, Hid (Nat.gcd d n = g) := ⟨_, Lib.hid rfl⟩
  have hgc : Nat.gcd n d = g := by rw [Nat.gcd_comm]; exact hg.out
  rw [hgc]
  have hg0 : 0 < g := by rw [← hgc]; exact gcd_dle hd0
  have hgM : g ≤ M := by rw [← hgc]; exact Nat.le_trans (Nat.gcd_le_right _ hd0) hd
  obtain ⟨kg, hkg⟩ : ∃ k, Hid ((limbs g).length = k) := ⟨_, Lib.hid rfl⟩
  obtain ⟨q1, hq1⟩ : ∃ k, Hid ((limbs (n / g)).length = k) := ⟨_, Lib.hid rfl⟩
  obtain ⟨q2, hq2⟩ : ∃ k, Hid ((limbs (d / g)).length = k) := ⟨_, Lib.hid rfl⟩
  have S1 := Lib.hid (s1.mono hle1)
  have S2 := Lib.hid (s2.mono hle1)
  have HB := Lib.hid hb1
  obtain ⟨bb, hbb⟩ : ∃ b, Hid (w.heap.size = b) := ⟨_, Lib.hid rfl⟩
  obtain ⟨ng, hng⟩ : ∃ b, Hid ((neg && decide (n / g ≠ 0)) = b) := ⟨_, Lib.hid rfl⟩
  rw [hng.out]
  clear s1 s2 hφ hb1 hi1 hgc
  have hsg : Hid ((neg = false ∧ ng = false) ∨ (neg = true ∧ q1 = 0 ∧ ng = false) ∨ (neg = true ∧ 0 < q1 ∧ ng = true)) := by
    refine Lib.hid ?_
    have e := hng.out
    cases neg
    · exact .inl ⟨rfl, by rw [← e]; rfl⟩
    · by_cases h0 : q1 = 0
      · have : n / g = 0 := limbs_len0.1 (by rw [hq1.out]; exact h0)
        exact .inr (.inl ⟨rfl, h0, by rw [← e, this]; rfl⟩)
      · have : n / g ≠ 0 := fun e2 => h0 (by rw [← hq1.out, e2, limbs_zero]; rfl)
        exact .inr (.inr ⟨rfl, by omega, by rw [← e, decide_eq_true this]; rfl⟩)
  go_enter Tryd.func61, Tryd.ntmps61
  go_wp2_with (first
      | (go_at_call 80; refine (Rdivisor_any hD hRS.out.inv.fz S2.out S1.out h2 h1 hd hn).mono ?_; rintro e w1 ⟨ag, cg, φ2, rfl, hi2, hs2⟩; rw [hg.out, hkg.out]; rw [hg.out] at hs2; have H2 := Lib.hid (hRS.out.call hi2); have L2 := Lib.hid hi2.le; have SG := Lib.hid hs2; have x1 : w1.cell? ⟨w.heap.size, 0, none⟩ = some (.bool neg) := box_cell HB.out L2.out H2.out.inv.fz 0; have x2 : w1.cell? ⟨w.heap.size, 1, none⟩ = some (.slice a1 k1 c1) := box_cell HB.out L2.out H2.out.inv.fz 1; have x3 : w1.cell? ⟨w.heap.size, 2, none⟩ = some (.slice a2 k2 c2) := box_cell HB.out L2.out H2.out.inv.fz 2)
      | (go_at_call 81; (refine (hD.out d g k2 kg a2 ag c2 cg _ φ3 H3.out.inv.fz (S2.out.mono L3.out) SG3.out h2 hkg hd hgM hg0).mono ?_); rintro e w4 ⟨a5, c5, a6, c6, φ4, rfl, hi4, hs5, hs6⟩; rw [hq2.out]; have H4 := Lib.hid (H3.out.call hi4); have L4 := Lib.hid (L3.out.trans hi4.le); have SN4 := Lib.hid (SN.out.mono hi4.le); have SD := Lib.hid hs5; have u1 : w4.cell? ⟨w.heap.size, 0, none⟩ = some (.bool neg) := box_cell HB.out L4.out H4.out.inv.fz 0; obtain ⟨z0, z1, z2, u2, u3, u4⟩ := H4.out.facts)
      | (go_at_call 81; (refine (hD.out n g k1 kg a1 ag c1 cg _ φ2 H2.out.inv.fz (S1.out.mono L2.out) SG.out h1 hkg hn hgM hg0).mono ?_); rintro e w3 ⟨a3, c3, a4, c4, φ3, rfl, hi3, hs3, hs4⟩; rw [hq1.out]; have H3 := Lib.hid (H2.out.call hi3); have L3 := Lib.hid (L2.out.trans hi3.le); have SG3 := Lib.hid (SG.out.mono hi3.le); have SN := Lib.hid hs3; have y1 : w3.cell? ⟨w.heap.size, 0, none⟩ = some (.bool neg) := box_cell HB.out L3.out H3.out.inv.fz 0; have y3 : w3.cell? ⟨w.heap.size, 2, none⟩ = some (.slice a2 k2 c2) := box_cell HB.out L3.out H3.out.inv.fz 2))
  all_goals first
    | (have hv : decide (0 < q1) = ng := by
         rcases hsg.out with ⟨h, h'⟩ | ⟨h, h', h''⟩ | ⟨h, h', h''⟩
         · exact absurd h (by simp [*])
         · rw [h', h'']; rfl
         · rw [h'']; exact decide_eq_true h'
       have hIZ := Lib.hid (((H4.out.inv.setCell H4.out.l H4.out.f (off := 0) (Value.bool (decide (0 < q1)))).setCell H4.out.l H4.out.f (off := 1) (Value.slice a3 q1 c3)).setCell H4.out.l H4.out.f (off := 2) (Value.slice a5 q2 c5))
       have hBZ := Lib.hid (((H4.out.k.set 0 (Value.bool (decide (0 < q1)))).set 1 (Value.slice a3 q1 c3)).set 2 (Value.slice a5 q2 c5))
       have e0 : _ = some (Value.bool (decide (0 < q1))) := hBZ.out.cell 0
       have e1 : _ = some (Value.slice a3 q1 c3) := hBZ.out.cell 1
       have e2 : _ = some (Value.slice a5 q2 c5) := hBZ.out.cell 2
       (try simp only [Exit.inBlock, Exit.then])
       refine bodyPost_ret (v := .agg #[(Value.bool (decide (0 < q1))), (Value.slice a3 q1 c3), (Value.slice a5 q2 c5)]) (by simp [results, Tryd.results61, go_sem, e0, e1, e2]) rfl ?_
       exact ⟨a3, c3, a5, c5, φ4, by rw [hq1.out, hq2.out, hv], hIZ.out, SN4.out, SD.out⟩)
    | (have hv : false = ng := by
         rcases hsg.out with ⟨h, h'⟩ | ⟨h, h', h''⟩ | ⟨h, h', h''⟩
         · exact h'.symm
         · exact h''.symm
         · exact absurd h (by assumption)
       have hIZ := Lib.hid (((H4.out.inv.setCell H4.out.l H4.out.f (off := 0) (Value.bool false)).setCell H4.out.l H4.out.f (off := 1) (Value.slice a3 q1 c3)).setCell H4.out.l H4.out.f (off := 2) (Value.slice a5 q2 c5))
       have hBZ := Lib.hid (((H4.out.k.set 0 (Value.bool false)).set 1 (Value.slice a3 q1 c3)).set 2 (Value.slice a5 q2 c5))
       have e0 : _ = some (Value.bool false) := hBZ.out.cell 0
       have e1 : _ = some (Value.slice a3 q1 c3) := hBZ.out.cell 1
       have e2 : _ = some (Value.slice a5 q2 c5) := hBZ.out.cell 2
       (try simp only [Exit.inBlock, Exit.then])
       refine bodyPost_ret (v := .agg #[(Value.bool false), (Value.slice a3 q1 c3), (Value.slice a5 q2 c5)]) (by simp [results, Tryd.results61, go_sem, e0, e1, e2]) rfl ?_
       exact ⟨a3, c3, a5, c5, φ4, by rw [hq1.out, hq2.out, hv], hIZ.out, SN4.out, SD.out⟩)
end Go.Proofs.YtafcecgcmaoakaaDoor
