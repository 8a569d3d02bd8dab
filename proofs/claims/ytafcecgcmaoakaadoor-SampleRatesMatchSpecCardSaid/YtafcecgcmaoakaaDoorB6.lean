/- The reference's exact numbers as rationals; the walk of reduced. Conditions: none beyond what the claim form gives. -/
import Derived.Test.YtafcecgcmaoakaaDoorB5
namespace Go.Proofs.YtafcecgcmaoakaaDoor
open Go.RowKit
set_option linter.unusedVariables false
/-- A value that reads as an exact number of the reference's; its numerator and denominator are at most N and D. -/
def FrX (φ : Phi) (v : Value) (x : Rat) (N D : Nat) : Prop := ∃ (neg : Bool) (n d : Nat) (a1 : Option Addr) (c1 : Nat) (a2 : Option Addr) (c2 : Nat),
  v = .agg #[.bool neg, .slice a1 (limbs n).length c1, .slice a2 (limbs d).length c2] ∧ SlV φ a1 c1 (limbs n) ∧ SlV φ a2 c2 (limbs d) ∧ 0 < d ∧ n ≤ N ∧ d ≤ D ∧ rat neg n d = x
theorem FrX.mono {φ φ' : Phi} {v : Value} {x : Rat} {N D : Nat} (h : FrX φ v x N D) (hl : φ.le φ') : FrX φ' v x N D := by
  obtain ⟨neg, n, d, a1, c1, a2, c2, rfl, s1, s2, r⟩ := h
  exact ⟨neg, n, d, a1, c1, a2, c2, rfl, s1.mono hl, s2.mono hl, r⟩
def FrXP (x : Rat) (N D : Nat) (φ : Phi) (w : World) (e : Ending) (w' : World) : Prop :=
  ∃ v φ', e = .returned v ∧ Inv w.heap.size w φ φ' w' ∧ FrX φ' v x N D
/-- A value with its parts laid open. -/
theorem FrX.open {φ : Phi} {v : Value} {x : Rat} {N D : Nat} (h : FrX φ v x N D) : ∃ (neg : Bool) (n d k1 k2 : Nat) (a1 : Option Addr) (c1 : Nat) (a2 : Option Addr) (c2 : Nat),
    v = .agg #[.bool neg, .slice a1 k1 c1, .slice a2 k2 c2] ∧ SlV φ a1 c1 (limbs n) ∧ SlV φ a2 c2 (limbs d) ∧ Hid ((limbs n).length = k1) ∧ Hid ((limbs d).length = k2) ∧ 0 < d ∧ n ≤ N ∧ d ≤ D ∧ rat neg n d = x := by
  obtain ⟨neg, n, d, a1, c1, a2, c2, rfl, s1, s2, h⟩ := h
  exact ⟨neg, n, d, _, _, a1, c1, a2, c2, rfl, s1, s2, Lib.hid rfl, Lib.hid rfl, h⟩
set_option maxRecDepth 100000 in
set_option maxHeartbeats 2000000 in
theorem Rreduced_any {M : Nat} (hD : Hid (RdivOk M)) {neg : Bool} {n d k1 k2 : Nat} {a1 a2 : Option Addr} {c1 c2 : Nat} {w : World} {φ : Phi} (hφ : Fz φ w) (s1 : SlV φ a1 c1 (limbs n)) (s2 : SlV φ a2 c2 (limbs d)) (h1 : Hid ((limbs n).length = k1)) (h2 : Hid ((limbs d).length = k2)) (hn : n ≤ M) (hd : d ≤ M) (hd0 : 0 < d) (hM : LenB M) {x : Rat} (hx : Hid (rat neg n d = x)) {N D : Nat} (hN : n ≤ N) (hND : d ≤ D) :
    Calls Tryd.prog 54 #[.agg #[.bool neg, .slice a1 k1 c1, .slice a2 k2 c2]] w (FrXP x N D φ w) := by
  obtain ⟨φ1, hle1, hi1, hb1⟩ := (Inv.start hφ).frz (.cells #[.bool neg, .slice a1 k1 c1, .slice a2 k2 c2] 68)
  have hRS := Lib.hid (RsSt.start hi1 #[.bool false, .slice none 0 0, .slice none 0 0] 68)
  rw [alloc_sz] at hRS
  have hk1 : k1 ≤ 1000000000 := by rw [← h1.out]; exact hM.len hn
  have hk2 : k2 ≤ 1000000000 := by rw [← h2.out]; exact hM.len hd
  have S1 := Lib.hid (s1.mono hle1)
  have S2 := Lib.hid (s2.mono hle1)
  have HB := Lib.hid hb1
  have hg0 : 0 < Nat.gcd n d := gcd_dle hd0
  obtain ⟨g, hg⟩ : ∃ g, Hid (Nat.gcd n d = g) := ⟨_, Lib.hid rfl⟩
  rw [hg.out] at hg0
  obtain ⟨ng, hng⟩ : ∃ b, Hid ((neg && decide (n / g ≠ 0)) = b) := ⟨_, Lib.hid rfl⟩
  obtain ⟨q1, hq1⟩ : ∃ k, Hid ((limbs (n / g)).length = k) := ⟨_, Lib.hid rfl⟩
  obtain ⟨q2, hq2⟩ : ∃ k, Hid ((limbs (d / g)).length = k) := ⟨_, Lib.hid rfl⟩
  have hfin : Hid (0 < d / g ∧ n / g ≤ N ∧ d / g ≤ D ∧ rat ng (n / g) (d / g) = x) := Lib.hid (by
    have hgd : g ∣ d := by rw [← hg.out]; exact Nat.gcd_dvd_right n d
    refine ⟨Nat.div_pos (Nat.le_of_dvd hd0 hgd) hg0, Nat.le_trans (Nat.div_le_self n g) hN, Nat.le_trans (Nat.div_le_self d g) hND, ?_⟩
    rw [← hng.out, rat_lowest hg0 (by rw [← hg.out]; exact Nat.gcd_dvd_left n d) hgd, hx.out])
  have hC := Lib.hid (fun W (hf : Fz φ1 W) => (Rlowest_any (neg := neg) hD hf S1.out S2.out h1 h2 hn hd hd0 hM))
  rw [hg.out, hng.out] at hC
  have hI1 := Lib.hid hi1
  clear s1 s2 hφ hb1 hi1
  have z := hRS.out.facts
  obtain ⟨z0, z1, z2, u2, u3, u4⟩ := z
  go_enter Tryd.func54, Tryd.ntmps54
  by_cases h12 : k1 + k2 < 12
  · have h12i : (k1 : Int) + (k2 : Int) < 12 := by omega
    clear hC
    go_wp2
    have hIZ := Lib.hid (((hRS.out.inv.setCell hRS.out.l hRS.out.f (off := 0) (Value.bool neg)).setCell hRS.out.l hRS.out.f (off := 1) (Value.slice a1 k1 c1)).setCell hRS.out.l hRS.out.f (off := 2) (Value.slice a2 k2 c2))
    have hBZ := Lib.hid (((hRS.out.k.set 0 (Value.bool neg)).set 1 (Value.slice a1 k1 c1)).set 2 (Value.slice a2 k2 c2))
    have e0 : _ = some (Value.bool neg) := hBZ.out.cell 0
    have e1 : _ = some (Value.slice a1 k1 c1) := hBZ.out.cell 1
    have e2 : _ = some (Value.slice a2 k2 c2) := hBZ.out.cell 2
    (try simp only [Exit.inBlock, Exit.then])
    refine bodyPost_ret (v := .agg #[(Value.bool neg), (Value.slice a1 k1 c1), (Value.slice a2 k2 c2)]) (by simp [results, Tryd.results54, go_sem, e0, e1, e2]) rfl ?_
    exact ⟨_, φ1, rfl, hI1.out.alloc _, neg, n, d, a1, c1, a2, c2, by rw [h1.out, h2.out], S1.out, S2.out, hd0, hN, hND, hx.out⟩
  · have h12i : ¬ (k1 : Int) + (k2 : Int) < 12 := by omega
    go_wp2_with (go_at_call 61; refine (hC.out _ hRS.out.inv.fz).mono ?_; rintro e w2 ⟨a3, c3, a4, c4, φ2, rfl, hi2, hs3, hs4⟩; rw [hq1.out, hq2.out]; have H2 := Lib.hid (hRS.out.call hi2); obtain ⟨y0, y1, y2, y3, y4, y5⟩ := H2.out.facts)
    have hIZ := Lib.hid (((H2.out.inv.setCell H2.out.l H2.out.f (off := 0) (Value.bool ng)).setCell H2.out.l H2.out.f (off := 1) (Value.slice a3 q1 c3)).setCell H2.out.l H2.out.f (off := 2) (Value.slice a4 q2 c4))
    have hBZ := Lib.hid (((H2.out.k.set 0 (Value.bool ng)).set 1 (Value.slice a3 q1 c3)).set 2 (Value.slice a4 q2 c4))
    have e0 : _ = some (Value.bool ng) := hBZ.out.cell 0
    have e1 : _ = some (Value.slice a3 q1 c3) := hBZ.out.cell 1
    have e2 : _ = some (Value.slice a4 q2 c4) := hBZ.out.cell 2
    (try simp only [Exit.inBlock, Exit.then])
    refine bodyPost_ret (v := .agg #[(Value.bool ng), (Value.slice a3 q1 c3), (Value.slice a4 q2 c4)]) (by simp [results, Tryd.results54, go_sem, e0, e1, e2]) rfl ?_
    exact ⟨_, φ2, rfl, hIZ.out, ng, n / g, d / g, a3, c3, a4, c4, by rw [hq1.out, hq2.out], hs3, hs4, hfin.out⟩
end Go.Proofs.YtafcecgcmaoakaaDoor
