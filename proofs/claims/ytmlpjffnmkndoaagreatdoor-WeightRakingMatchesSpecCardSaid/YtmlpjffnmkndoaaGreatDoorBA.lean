/- The reference's natural numbers: the walks of divide (for numbers of one limb) and divisor. The reference's exact numbers: words, and the walks of lowest and reduced. The reference's exact numbers as rationals; the walk of reduced. The reference's exact numbers: the walks of Part, Whole, Zero and Over. Conditions: none beyond what the claim form gives. -/
import Derived.Test.YtmlpjffnmkndoaaGreatDoorB3
import Derived.Test.YtmlpjffnmkndoaaGreatDoorAB
import Derived.Deep.RegionHeld3
namespace Go.Proofs.YtmlpjffnmkndoaaGreatDoor
open Go.RowKit
set_option linter.unusedVariables false
set_option linter.unusedSimpArgs false
/-- Two natural numbers. -/
def DivI (m n : Nat) (φ : Phi) (w : World) (e : Ending) (w' : World) : Prop :=
 ∃ a1 c1 a2 c2 φ', e = .returned (.tuple #[.slice a1 (limbs m).length c1, .slice a2 (limbs n).length c2]) ∧ Inv w.heap.size w φ φ' w' ∧ SlV φ' a1 c1 (limbs m) ∧ SlV φ' a2 c2 (limbs n)
/-- What divide gives, for numbers up to M. -/
def RdivOk (M : Nat) : Prop := ∀ (m n k1 k2 : Nat) (a1 a2 : Option Addr) (c1 c2 : Nat) (w : World) (φ : Phi), Fz φ w → SlV φ a1 c1 (limbs m) → SlV φ a2 c2 (limbs n) → Hid ((limbs m).length = k1) → Hid ((limbs n).length = k2) → m ≤ M → n ≤ M → 0 < n →
 Calls Tryz.prog 115 #[.slice a1 k1 c1, .slice a2 k2 c2] w (DivI (m / n) (m % n) φ w)
/-- The number that a slice holds in a world. -/
def natAt (w : World) (v : Value) : Nat :=
 match v with
 | .slice (some a) n _ => LV ((List.range n).map fun k => match w.cell? ⟨a.block, a.off + k, none⟩ with | some (.int _ z) => z.toNat | _ => 0)
 | _ => 0
theorem natAt_I {φ : Phi} {w : World} {a : Option Addr} {c k y : Nat} (hφ : Fz φ w) (s : SlV φ a c (limbs y)) (hk : Hid ((limbs y).length = k)) : natAt w (.slice a k c) = y := by
  cases k with
  | zero =>
    have : y = 0 := limbs_len0.1 hk.out
    subst this
    cases a <;> rfl
  | succ k =>
    obtain ⟨b, off, rfl, f⟩ := s.natI hk (k := 0) (by omega)
    show LV _ = y
    have : ((List.range (k + 1)).map fun j => match w.cell? ⟨b, off + j, none⟩ with | some (.int _ z) => z.toNat | _ => 0) = limbs y := by
      apply List.ext_getElem (by rw [List.length_map, List.length_range, hk.out])
      intro i h1 h2
      rw [List.getElem_map, List.getElem_range, (f i (by rw [← hk.out]; exact h2) w hφ).2, getD_elem0 0 _ _ h2]
      simp
    rw [this, LV_limbs]
/-- Two numbers in a loop. -/
structure GcI (w0 : World) (φ : Phi) (a1 : Option Addr) (c1 : Nat) (x : Nat) (a2 : Option Addr) (c2 : Nat) (y : Nat) (φ' : Phi) (w : World) : Prop where
 inv : Inv w0.heap.size w0 φ φ' w
 s1 : SlV φ' a1 c1 (limbs x)
 s2 : SlV φ' a2 c2 (limbs y)
set_option maxHeartbeats 1000000 in
theorem Rdivisor_any {M : Nat} (hD : Hid (RdivOk M)) {m n k1 k2 : Nat} {a1 a2 : Option Addr} {c1 c2 : Nat} {w : World} {φ : Phi} (hφ : Fz φ w) (s1 : SlV φ a1 c1 (limbs m)) (s2 : SlV φ a2 c2 (limbs n)) (h1 : Hid ((limbs m).length = k1)) (h2 : Hid ((limbs n).length = k2)) (hm : m ≤ M) (hn : n ≤ M) :
  Calls Tryz.prog 147 #[.slice a1 k1 c1, .slice a2 k2 c2] w (NatI (Nat.gcd m n) φ w) := by
 have hS0 : Hid (GcI w φ a1 c1 m a2 c2 n φ w) := Lib.hid ⟨Inv.start hφ, s1, s2⟩
 clear s1 s2 hφ
 go_enter Tryz.func147, Tryz.ntmps147
 go_wp2
 go_loopw [0, 1] (fun u v wr => ∃ (x y k1 k2 : Nat) (a1 a2 : Option Addr) (c1 c2 : Nat) (φ' : Phi), x ≤ M ∧ y ≤ M ∧ u = .slice a1 k1 c1 ∧ v = .slice a2 k2 c2 ∧ Hid ((limbs x).length = k1) ∧ Hid ((limbs y).length = k2) ∧ Hid (Nat.gcd x y = Nat.gcd m n) ∧ Hid (GcI w φ a1 c1 x a2 c2 y φ' wr)) (fun _ v wr => natAt wr v)
 case atStart => exact ⟨m, n, k1, k2, a1, a2, c1, c2, φ, hm, hn, rfl, rfl, h1, h2, Lib.hid rfl, hS0⟩
 case round =>
  clear hS0 hm hn h1 h2
  obtain ⟨x, y, k1, k2, a1, a2, c1, c2, φ', hx, hy, rfl, rfl, h1, h2, hg, hS⟩ := hrel
  by_cases h0 : k2 = 0
  ·subst h0
   have hy : y = 0 := limbs_len0.1 h2.out
   have e : Hid (x = Nat.gcd m n) := Lib.hid (by rw [← hg.out, hy, Nat.gcd_zero_right])
   go_wp2
   go_ret
   refine ⟨a1, c1, φ', ?_, hS.out.inv, ?_⟩
   ·rw [← e.out, h1.out]; rfl
   ·rw [← e.out]; exact hS.out.s1
  ·have hy0 : 0 < y := by
    rcases Nat.eq_zero_or_pos y with q | q
    ·exfalso; apply h0; rw [← h2.out, q, limbs_zero]; rfl
    ·exact q
   have hk0 : (0 : Int) < (k2 : Int) := by omega
   have hme : Hid (natAt wr (.slice a2 k2 c2) = y) := Lib.hid (natAt_I hS.out.inv.fz hS.out.s2 h2)
   have hmod : x % y < y := Nat.mod_lt x hy0
   obtain ⟨k3, h3⟩ : ∃ k3, Hid ((limbs (x % y)).length = k3) := ⟨_, Lib.hid rfl⟩
   have hx3 : x % y ≤ M := by omega
   have hg2 : Hid (Nat.gcd y (x % y) = Nat.gcd m n) := Lib.hid (by rw [← hg.out, Nat.gcd_comm y, ← Nat.gcd_rec, Nat.gcd_comm])
   clear h0
   go_wp2_with (go_at_call 115; refine (hD.out x y k1 k2 a1 a2 c1 c2 _ φ' hS.out.inv.fz hS.out.s1 hS.out.s2 h1 h2 hx hy hy0).mono ?_; rintro e w2 ⟨a8, c8, a9, c9, φ9, rfl, hi9, hs8, hs9⟩; rw [h3.out])
   go_roundw
   case rel => exact ⟨y, x % y, k2, k3, a2, a9, c2, c9, φ9, hy, hx3, rfl, rfl, h2, h3, hg2, Lib.hid ⟨hS.out.inv.call hi9, hS.out.s2.mono hi9.le, hs9⟩⟩
   case measure =>
    rw [hme.out, natAt_I hi9.fz hs9 h3]
    exact hmod
end Go.Proofs.YtmlpjffnmkndoaaGreatDoor

namespace Go.Proofs.YtmlpjffnmkndoaaGreatDoor
open Go.RowKit
set_option linter.unusedVariables false
set_option linter.unusedSimpArgs false
/-- An exact number of the reference's, handed back. -/
def FrI (neg : Bool) (n d : Nat) (φ : Phi) (w : World) (e : Ending) (w' : World) : Prop :=
 ∃ a1 c1 a2 c2 φ', e = .returned (.agg #[.bool neg, .slice a1 (limbs n).length c1, .slice a2 (limbs d).length c2]) ∧ Inv w.heap.size w φ φ' w' ∧ SlV φ' a1 c1 (limbs n) ∧ SlV φ' a2 c2 (limbs d)
set_option maxRecDepth 100000 in
set_option maxHeartbeats 2000000 in
theorem Rlowest_any {M : Nat} (hD : Hid (RdivOk M)) {neg : Bool} {n d k1 k2 : Nat} {a1 a2 : Option Addr} {c1 c2 : Nat} {w : World} {φ : Phi} (hφ : Fz φ w) (s1 : SlV φ a1 c1 (limbs n)) (s2 : SlV φ a2 c2 (limbs d)) (h1 : Hid ((limbs n).length = k1)) (h2 : Hid ((limbs d).length = k2)) (hn : n ≤ M) (hd : d ≤ M) (hd0 : 0 < d) (hM : LenB M) :
    Calls Tryz.prog 116 #[.agg #[.bool neg, .slice a1 k1 c1, .slice a2 k2 c2]] w (FrI (neg && decide (n / Nat.gcd n d ≠ 0)) (n / Nat.gcd n d) (d / Nat.gcd n d) φ w) := by
  obtain ⟨φ1, hle1, hi1, hb1⟩ := (Inv.start hφ).frz (.cells #[.bool neg, .slice a1 k1 c1, .slice a2 k2 c2] 36)
  have hRS := Lib.hid (RsSt.start hi1 #[.bool false, .slice none 0 0, .slice none 0 0] 36)
  rw [alloc_sz] at hRS
  obtain ⟨g, hg⟩ : ∃ g, Hid (Nat.gcd d n = g) := ⟨_, Lib.hid rfl⟩
  have hgc : Nat.gcd n d = g := by rw [Nat.gcd_comm]; exact hg.out
  rw [hgc]
  have hg0 : 0 < g := by rw [← hgc]; exact gcd_dle hd0
  have hgM : g ≤ M := by rw [← hgc]; exact Nat.le_trans (Nat.gcd_le_right _ hd0) hd
  obtain ⟨kg, hkg⟩ : ∃ k, Hid ((limbs g).length = k) := ⟨_, Lib.hid rfl⟩
  obtain ⟨q1, hq1⟩ : ∃ k, Hid ((limbs (n / g)).length = k) := ⟨_, Lib.hid rfl⟩
  obtain ⟨q2, hq2⟩ : ∃ k, Hid ((limbs (d / g)).length = k) := ⟨_, Lib.hid rfl⟩
  have S1 := Lib.hid (s1.mono hle1)
  have S2 := Lib.hid (s2.mono hle1)
  have HB := Lib.hid hb1
  obtain ⟨bb, hbb⟩ : ∃ b, Hid (w.heap.size = b) := ⟨_, Lib.hid rfl⟩
  obtain ⟨ng, hng⟩ : ∃ b, Hid ((neg && decide (n / g ≠ 0)) = b) := ⟨_, Lib.hid rfl⟩
  rw [hng.out]
  clear s1 s2 hφ hb1 hi1 hgc
  have hsg : Hid ((neg = false ∧ ng = false) ∨ (neg = true ∧ q1 = 0 ∧ ng = false) ∨ (neg = true ∧ 0 < q1 ∧ ng = true)) := by
    refine Lib.hid ?_
    have e := hng.out
    cases neg
    · exact .inl ⟨rfl, by rw [← e]; rfl⟩
    · by_cases h0 : q1 = 0
      · have : n / g = 0 := limbs_len0.1 (by rw [hq1.out]; exact h0)
        exact .inr (.inl ⟨rfl, h0, by rw [← e, this]; rfl⟩)
      · have : n / g ≠ 0 := fun e2 => h0 (by rw [← hq1.out, e2, limbs_zero]; rfl)
        exact .inr (.inr ⟨rfl, by omega, by rw [← e, decide_eq_true this]; rfl⟩)
  go_enter Tryz.func116, Tryz.ntmps116
  go_wp2_with (first
      | (go_at_call 147; refine (Rdivisor_any hD hRS.out.inv.fz S2.out S1.out h2 h1 hd hn).mono ?_; rintro e w1 ⟨ag, cg, φ2, rfl, hi2, hs2⟩; rw [hg.out, hkg.out]; rw [hg.out] at hs2; have H2 := Lib.hid (hRS.out.call hi2); have L2 := Lib.hid hi2.le; have SG := Lib.hid hs2; have x1 : w1.cell? ⟨w.heap.size, 0, none⟩ = some (.bool neg) := box_cell HB.out L2.out H2.out.inv.fz 0; have x2 : w1.cell? ⟨w.heap.size, 1, none⟩ = some (.slice a1 k1 c1) := box_cell HB.out L2.out H2.out.inv.fz 1; have x3 : w1.cell? ⟨w.heap.size, 2, none⟩ = some (.slice a2 k2 c2) := box_cell HB.out L2.out H2.out.inv.fz 2)
      | (go_at_call 115; (refine (hD.out d g k2 kg a2 ag c2 cg _ φ3 H3.out.inv.fz (S2.out.mono L3.out) SG3.out h2 hkg hd hgM hg0).mono ?_); rintro e w4 ⟨a5, c5, a6, c6, φ4, rfl, hi4, hs5, hs6⟩; rw [hq2.out]; have H4 := Lib.hid (H3.out.call hi4); have L4 := Lib.hid (L3.out.trans hi4.le); have SN4 := Lib.hid (SN.out.mono hi4.le); have SD := Lib.hid hs5; have u1 : w4.cell? ⟨w.heap.size, 0, none⟩ = some (.bool neg) := box_cell HB.out L4.out H4.out.inv.fz 0; obtain ⟨z0, z1, z2, u2, u3, u4⟩ := H4.out.facts)
      | (go_at_call 115; (refine (hD.out n g k1 kg a1 ag c1 cg _ φ2 H2.out.inv.fz (S1.out.mono L2.out) SG.out h1 hkg hn hgM hg0).mono ?_); rintro e w3 ⟨a3, c3, a4, c4, φ3, rfl, hi3, hs3, hs4⟩; rw [hq1.out]; have H3 := Lib.hid (H2.out.call hi3); have L3 := Lib.hid (L2.out.trans hi3.le); have SG3 := Lib.hid (SG.out.mono hi3.le); have SN := Lib.hid hs3; have y1 : w3.cell? ⟨w.heap.size, 0, none⟩ = some (.bool neg) := box_cell HB.out L3.out H3.out.inv.fz 0; have y3 : w3.cell? ⟨w.heap.size, 2, none⟩ = some (.slice a2 k2 c2) := box_cell HB.out L3.out H3.out.inv.fz 2))
  all_goals first
    | (have hv : decide (0 < q1) = ng := by
         rcases hsg.out with ⟨h, h'⟩ | ⟨h, h', h''⟩ | ⟨h, h', h''⟩
         · exact absurd h (by simp [*])
         · rw [h', h'']; rfl
         · rw [h'']; exact decide_eq_true h'
       have hIZ := Lib.hid (((H4.out.inv.setCell H4.out.l H4.out.f (off := 0) (Value.bool (decide (0 < q1)))).setCell H4.out.l H4.out.f (off := 1) (Value.slice a3 q1 c3)).setCell H4.out.l H4.out.f (off := 2) (Value.slice a5 q2 c5))
       have hBZ := Lib.hid (((H4.out.k.set 0 (Value.bool (decide (0 < q1)))).set 1 (Value.slice a3 q1 c3)).set 2 (Value.slice a5 q2 c5))
       have e0 : _ = some (Value.bool (decide (0 < q1))) := hBZ.out.cell 0
       have e1 : _ = some (Value.slice a3 q1 c3) := hBZ.out.cell 1
       have e2 : _ = some (Value.slice a5 q2 c5) := hBZ.out.cell 2
       (try simp only [Exit.inBlock, Exit.then])
       refine bodyPost_ret (v := .agg #[(Value.bool (decide (0 < q1))), (Value.slice a3 q1 c3), (Value.slice a5 q2 c5)]) (by simp [results, Tryz.results116, go_sem, e0, e1, e2]) rfl ?_
       exact ⟨a3, c3, a5, c5, φ4, by rw [hq1.out, hq2.out, hv], hIZ.out, SN4.out, SD.out⟩)
    | (have hv : false = ng := by
         rcases hsg.out with ⟨h, h'⟩ | ⟨h, h', h''⟩ | ⟨h, h', h''⟩
         · exact h'.symm
         · exact h''.symm
         · exact absurd h (by assumption)
       have hIZ := Lib.hid (((H4.out.inv.setCell H4.out.l H4.out.f (off := 0) (Value.bool false)).setCell H4.out.l H4.out.f (off := 1) (Value.slice a3 q1 c3)).setCell H4.out.l H4.out.f (off := 2) (Value.slice a5 q2 c5))
       have hBZ := Lib.hid (((H4.out.k.set 0 (Value.bool false)).set 1 (Value.slice a3 q1 c3)).set 2 (Value.slice a5 q2 c5))
       have e0 : _ = some (Value.bool false) := hBZ.out.cell 0
       have e1 : _ = some (Value.slice a3 q1 c3) := hBZ.out.cell 1
       have e2 : _ = some (Value.slice a5 q2 c5) := hBZ.out.cell 2
       (try simp only [Exit.inBlock, Exit.then])
       refine bodyPost_ret (v := .agg #[(Value.bool false), (Value.slice a3 q1 c3), (Value.slice a5 q2 c5)]) (by simp [results, Tryz.results116, go_sem, e0, e1, e2]) rfl ?_
       exact ⟨a3, c3, a5, c5, φ4, by rw [hq1.out, hq2.out, hv], hIZ.out, SN4.out, SD.out⟩)
end Go.Proofs.YtmlpjffnmkndoaaGreatDoor

namespace Go.Proofs.YtmlpjffnmkndoaaGreatDoor
open Go.RowKit
set_option linter.unusedVariables false
set_option linter.unusedSimpArgs false
/-- A value that reads as an exact number of the reference's; its numerator and denominator are at most N and D. -/
def FrX (φ : Phi) (v : Value) (x : Rat) (N D : Nat) : Prop := ∃ (neg : Bool) (n d : Nat) (a1 : Option Addr) (c1 : Nat) (a2 : Option Addr) (c2 : Nat),
 v = .agg #[.bool neg, .slice a1 (limbs n).length c1, .slice a2 (limbs d).length c2] ∧ SlV φ a1 c1 (limbs n) ∧ SlV φ a2 c2 (limbs d) ∧ 0 < d ∧ n ≤ N ∧ d ≤ D ∧ rat neg n d = x
theorem FrX.mono {φ φ' : Phi} {v : Value} {x : Rat} {N D : Nat} (h : FrX φ v x N D) (hl : φ.le φ') : FrX φ' v x N D := by
 obtain ⟨neg, n, d, a1, c1, a2, c2, rfl, s1, s2, r⟩ := h
 exact ⟨neg, n, d, a1, c1, a2, c2, rfl, s1.mono hl, s2.mono hl, r⟩
def FrXP (x : Rat) (N D : Nat) (φ : Phi) (w : World) (e : Ending) (w' : World) : Prop :=
 ∃ v φ', e = .returned v ∧ Inv w.heap.size w φ φ' w' ∧ FrX φ' v x N D
/-- A value with its parts laid open. -/
theorem FrX.open {φ : Phi} {v : Value} {x : Rat} {N D : Nat} (h : FrX φ v x N D) : ∃ (neg : Bool) (n d k1 k2 : Nat) (a1 : Option Addr) (c1 : Nat) (a2 : Option Addr) (c2 : Nat),
  v = .agg #[.bool neg, .slice a1 k1 c1, .slice a2 k2 c2] ∧ SlV φ a1 c1 (limbs n) ∧ SlV φ a2 c2 (limbs d) ∧ Hid ((limbs n).length = k1) ∧ Hid ((limbs d).length = k2) ∧ 0 < d ∧ n ≤ N ∧ d ≤ D ∧ rat neg n d = x := by
 obtain ⟨neg, n, d, a1, c1, a2, c2, rfl, s1, s2, h⟩ := h
 exact ⟨neg, n, d, _, _, a1, c1, a2, c2, rfl, s1, s2, Lib.hid rfl, Lib.hid rfl, h⟩
set_option maxRecDepth 100000 in
set_option maxHeartbeats 2000000 in
theorem Rreduced_any {M : Nat} (hD : Hid (RdivOk M)) {neg : Bool} {n d k1 k2 : Nat} {a1 a2 : Option Addr} {c1 c2 : Nat} {w : World} {φ : Phi} (hφ : Fz φ w) (s1 : SlV φ a1 c1 (limbs n)) (s2 : SlV φ a2 c2 (limbs d)) (h1 : Hid ((limbs n).length = k1)) (h2 : Hid ((limbs d).length = k2)) (hn : n ≤ M) (hd : d ≤ M) (hd0 : 0 < d) (hM : LenB M) {x : Rat} (hx : Hid (rat neg n d = x)) {N D : Nat} (hN : n ≤ N) (hND : d ≤ D) :
  Calls Tryz.prog 83 #[.agg #[.bool neg, .slice a1 k1 c1, .slice a2 k2 c2]] w (FrXP x N D φ w) := by
 obtain ⟨φ1, hle1, hi1, hb1⟩ := (Inv.start hφ).frz (.cells #[.bool neg, .slice a1 k1 c1, .slice a2 k2 c2] 36)
 have hRS := Lib.hid (RsSt.start hi1 #[.bool false, .slice none 0 0, .slice none 0 0] 36)
 rw [alloc_sz] at hRS
 have hk1 : k1 ≤ 1000000000 := by rw [← h1.out]; exact hM.len hn
 have hk2 : k2 ≤ 1000000000 := by rw [← h2.out]; exact hM.len hd
 have S1 := Lib.hid (s1.mono hle1)
 have S2 := Lib.hid (s2.mono hle1)
 have HB := Lib.hid hb1
 have hg0 : 0 < Nat.gcd n d := gcd_dle hd0
 obtain ⟨g, hg⟩ : ∃ g, Hid (Nat.gcd n d = g) := ⟨_, Lib.hid rfl⟩
 rw [hg.out] at hg0
 obtain ⟨ng, hng⟩ : ∃ b, Hid ((neg && decide (n / g ≠ 0)) = b) := ⟨_, Lib.hid rfl⟩
 obtain ⟨q1, hq1⟩ : ∃ k, Hid ((limbs (n / g)).length = k) := ⟨_, Lib.hid rfl⟩
 obtain ⟨q2, hq2⟩ : ∃ k, Hid ((limbs (d / g)).length = k) := ⟨_, Lib.hid rfl⟩
 have hfin : Hid (0 < d / g ∧ n / g ≤ N ∧ d / g ≤ D ∧ rat ng (n / g) (d / g) = x) := Lib.hid (by
  have hgd : g ∣ d := by rw [← hg.out]; exact Nat.gcd_dvd_right n d
  refine ⟨Nat.div_pos (Nat.le_of_dvd hd0 hgd) hg0, Nat.le_trans (Nat.div_le_self n g) hN, Nat.le_trans (Nat.div_le_self d g) hND, ?_⟩
  rw [← hng.out, rat_lowest hg0 (by rw [← hg.out]; exact Nat.gcd_dvd_left n d) hgd, hx.out])
 have hC := Lib.hid (fun W (hf : Fz φ1 W) => (Rlowest_any (neg := neg) hD hf S1.out S2.out h1 h2 hn hd hd0 hM))
 rw [hg.out, hng.out] at hC
 have hI1 := Lib.hid hi1
 clear s1 s2 hφ hb1 hi1
 have z := hRS.out.facts
 obtain ⟨z0, z1, z2, u2, u3, u4⟩ := z
 go_enter Tryz.func83, Tryz.ntmps83
 by_cases h12 : k1 + k2 < 12
 ·have h12i : (k1 : Int) + (k2 : Int) < 12 := by omega
  clear hC
  go_wp2
  have hIZ := Lib.hid (((hRS.out.inv.setCell hRS.out.l hRS.out.f (off := 0) (Value.bool neg)).setCell hRS.out.l hRS.out.f (off := 1) (Value.slice a1 k1 c1)).setCell hRS.out.l hRS.out.f (off := 2) (Value.slice a2 k2 c2))
  have hBZ := Lib.hid (((hRS.out.k.set 0 (Value.bool neg)).set 1 (Value.slice a1 k1 c1)).set 2 (Value.slice a2 k2 c2))
  have e0 : _ = some (Value.bool neg) := hBZ.out.cell 0
  have e1 : _ = some (Value.slice a1 k1 c1) := hBZ.out.cell 1
  have e2 : _ = some (Value.slice a2 k2 c2) := hBZ.out.cell 2
  (try simp only [Exit.inBlock, Exit.then])
  refine bodyPost_ret (v := .agg #[(Value.bool neg), (Value.slice a1 k1 c1), (Value.slice a2 k2 c2)]) (by simp [results, Tryz.results83, go_sem, e0, e1, e2]) rfl ?_
  exact ⟨_, φ1, rfl, hI1.out.alloc _, neg, n, d, a1, c1, a2, c2, by rw [h1.out, h2.out], S1.out, S2.out, hd0, hN, hND, hx.out⟩
 ·have h12i : ¬ (k1 : Int) + (k2 : Int) < 12 := by omega
  go_wp2_with (go_at_call 116; refine (hC.out _ hRS.out.inv.fz).mono ?_; rintro e w2 ⟨a3, c3, a4, c4, φ2, rfl, hi2, hs3, hs4⟩; rw [hq1.out, hq2.out]; have H2 := Lib.hid (hRS.out.call hi2); obtain ⟨y0, y1, y2, y3, y4, y5⟩ := H2.out.facts)
  have hIZ := Lib.hid (((H2.out.inv.setCell H2.out.l H2.out.f (off := 0) (Value.bool ng)).setCell H2.out.l H2.out.f (off := 1) (Value.slice a3 q1 c3)).setCell H2.out.l H2.out.f (off := 2) (Value.slice a4 q2 c4))
  have hBZ := Lib.hid (((H2.out.k.set 0 (Value.bool ng)).set 1 (Value.slice a3 q1 c3)).set 2 (Value.slice a4 q2 c4))
  have e0 : _ = some (Value.bool ng) := hBZ.out.cell 0
  have e1 : _ = some (Value.slice a3 q1 c3) := hBZ.out.cell 1
  have e2 : _ = some (Value.slice a4 q2 c4) := hBZ.out.cell 2
  (try simp only [Exit.inBlock, Exit.then])
  refine bodyPost_ret (v := .agg #[(Value.bool ng), (Value.slice a3 q1 c3), (Value.slice a4 q2 c4)]) (by simp [results, Tryz.results83, go_sem, e0, e1, e2]) rfl ?_
  exact ⟨_, φ2, rfl, hIZ.out, ng, n / g, d / g, a3, c3, a4, c4, by rw [hq1.out, hq2.out], hs3, hs4, hfin.out⟩
end Go.Proofs.YtmlpjffnmkndoaaGreatDoor

namespace Go.Proofs.YtmlpjffnmkndoaaGreatDoor
open Go.RowKit
set_option linter.unusedVariables false
set_option linter.unusedSimpArgs false
/-- A call with a result's cell; φ1 is what was frozen at its start. -/
structure FsS (w0 : World) (φ0 φ1 φ : Phi) (b : Nat) (W : World) : Prop where
 rs : RsSt w0 φ0 φ b #[.bool false, .slice none 0 0, .slice none 0 0] 36 W
 le : φ1.le φ
section
variable {w0 W w' : World} {φ0 φ1 φ φ' : Phi} {b : Nat}
theorem FsS.call (h : FsS w0 φ0 φ1 φ b W) (hi : Inv W.heap.size W φ φ' w') : FsS w0 φ0 φ1 φ' b w' := ⟨h.rs.call hi, h.le.trans hi.le⟩
theorem FsS.callB (h : FsS w0 φ0 φ1 φ b W) (hb : Below W.heap.size W w') : FsS w0 φ0 φ1 φ b w' := ⟨h.rs.callB hb, h.le⟩
theorem FsS.fz (h : FsS w0 φ0 φ1 φ b W) : Fz φ W := h.rs.inv.fz
end
set_option maxHeartbeats 1000000 in
theorem RWhole_any {n : Int} (h0 : -9223372036854775808 < n) (h1 : n < 9223372036854775808) {w : World} {φ : Phi} (hφ : Fz φ w) :
  Calls Tryz.prog 37 #[.int .i64 n] w (FrXP (n : Rat) n.natAbs 1 φ w) := by
 have hRS := Lib.hid (RsSt.start (Inv.start hφ) #[.bool false, .slice none 0 0, .slice none 0 0] 36)
 obtain ⟨a, ha⟩ : ∃ a, n.natAbs = a := ⟨_, rfl⟩
 rw [ha]
 obtain ⟨q1, hq1⟩ : ∃ k, Hid ((limbs a).length = k) := ⟨_, Lib.hid rfl⟩
 have hq2 : Hid ((limbs 1).length = 1) := Lib.hid (by rw [limbs_one (by decide) (by decide)]; rfl)
 have hal : a < 9223372036854775808 := by omega
 clear hφ
 go_enter Tryz.func37, Tryz.ntmps37
 by_cases hneg : n < 0
 ·have hna : Hid (-n = (a : Int)) := Lib.hid (by omega)
  have hx : Hid (rat true a 1 = (n : Rat)) := Lib.hid (by rw [rat_one]; congr 1; simp [sgn]; omega)
  clear ha
  go_wp2_with (first
   | (go_at_call 80; refine (Rsmall_any 1 (by omega) _ φ2 H2.out.inv.fz).mono ?_; rintro e w3 ⟨a4, c4, φ3, rfl, hi3, hs3⟩; rw [hq2.out]; have H3 := Lib.hid (H2.out.call hi3); have SB := Lib.hid hs3; have SA3 := Lib.hid (SA.out.mono hi3.le); obtain ⟨y0, y1, y2, y3, y4, y5⟩ := H3.out.facts)
   | (go_at_call 80; rw [hna.out]; refine (Rsmall_any a hal _ φ hRS.out.inv.fz).mono ?_; rintro e w2 ⟨a3, c3, φ2, rfl, hi2, hs2⟩; rw [hq1.out]; have H2 := Lib.hid (hRS.out.call hi2); have SA := Lib.hid hs2))
  have hIZ := Lib.hid (((H3.out.inv.setCell H3.out.l H3.out.f (off := 0) (Value.bool true)).setCell H3.out.l H3.out.f (off := 1) (Value.slice a3 q1 c3)).setCell H3.out.l H3.out.f (off := 2) (Value.slice a4 1 c4))
  have hBZ := Lib.hid (((H3.out.k.set 0 (Value.bool true)).set 1 (Value.slice a3 q1 c3)).set 2 (Value.slice a4 1 c4))
  have e0 : _ = some (Value.bool true) := hBZ.out.cell 0
  have e1 : _ = some (Value.slice a3 q1 c3) := hBZ.out.cell 1
  have e2 : _ = some (Value.slice a4 1 c4) := hBZ.out.cell 2
  (try simp only [Exit.inBlock, Exit.then])
  refine bodyPost_ret (v := .agg #[(Value.bool true), (Value.slice a3 q1 c3), (Value.slice a4 1 c4)]) (by simp [results, Tryz.results37, go_sem, e0, e1, e2]) rfl ?_
  exact ⟨_, φ3, rfl, hIZ.out, true, a, 1, a3, c3, a4, c4, by rw [hq1.out, hq2.out], SA3.out, SB.out, by decide, Nat.le_refl _, Nat.le_refl _, hx.out⟩
 ·have hna : Hid (n = (a : Int)) := Lib.hid (by omega)
  have hx : Hid (rat false a 1 = (n : Rat)) := Lib.hid (by rw [rat_one]; congr 1; simp [sgn]; omega)
  clear ha
  go_wp2_with (first
   | (go_at_call 80; refine (Rsmall_any 1 (by omega) _ φ2 H2.out.inv.fz).mono ?_; rintro e w3 ⟨a4, c4, φ3, rfl, hi3, hs3⟩; rw [hq2.out]; have H3 := Lib.hid (H2.out.call hi3); have SB := Lib.hid hs3; have SA3 := Lib.hid (SA.out.mono hi3.le); obtain ⟨y0, y1, y2, y3, y4, y5⟩ := H3.out.facts)
   | (go_at_call 80; rw [hna.out]; refine (Rsmall_any a hal _ φ hRS.out.inv.fz).mono ?_; rintro e w2 ⟨a3, c3, φ2, rfl, hi2, hs2⟩; rw [hq1.out]; have H2 := Lib.hid (hRS.out.call hi2); have SA := Lib.hid hs2))
  have hIZ := Lib.hid (((H3.out.inv.setCell H3.out.l H3.out.f (off := 0) (Value.bool false)).setCell H3.out.l H3.out.f (off := 1) (Value.slice a3 q1 c3)).setCell H3.out.l H3.out.f (off := 2) (Value.slice a4 1 c4))
  have hBZ := Lib.hid (((H3.out.k.set 0 (Value.bool false)).set 1 (Value.slice a3 q1 c3)).set 2 (Value.slice a4 1 c4))
  have e0 : _ = some (Value.bool false) := hBZ.out.cell 0
  have e1 : _ = some (Value.slice a3 q1 c3) := hBZ.out.cell 1
  have e2 : _ = some (Value.slice a4 1 c4) := hBZ.out.cell 2
  (try simp only [Exit.inBlock, Exit.then])
  refine bodyPost_ret (v := .agg #[(Value.bool false), (Value.slice a3 q1 c3), (Value.slice a4 1 c4)]) (by simp [results, Tryz.results37, go_sem, e0, e1, e2]) rfl ?_
  exact ⟨_, φ3, rfl, hIZ.out, false, a, 1, a3, c3, a4, c4, by rw [hq1.out, hq2.out], SA3.out, SB.out, by decide, Nat.le_refl _, Nat.le_refl _, hx.out⟩
theorem RZero_any {v : Value} {x : Rat} {N D : Nat} {w : World} {φ : Phi} (hφ : Fz φ w) (h : FrX φ v x N D) {b : Bool} (hb : Hid (decide (x = 0) = b)) :
  Calls Tryz.prog 39 #[v] w (fun e w' => e = .returned (.bool b) ∧ Below w.heap.size w w') := by
 obtain ⟨neg, n, d, k1, k2, a1, c1, a2, c2, rfl, s1, s2, h1, h2, hd, hn, hnd, hx⟩ := h.open
 have HB := Lib.hid ((Below.refl w.heap.size w).alloc (Nat.le_refl _) (.cells #[.bool neg, .slice a1 k1 c1, .slice a2 k2 c2] 36))
 have hz := rat_zero_iff hd hx
 by_cases h0 : k1 = 0
 ·have hb1 : Hid (b = true) := Lib.hid (by rw [← hb.out]; exact decide_eq_true (hz.2 (limbs_len0.1 (by rw [h1.out]; exact h0))))
  subst h0
  clear hz hx
  go_enter Tryz.func39, Tryz.ntmps39
  go_wp2
  go_ret
  exact ⟨ret_bool hb1.out.symm, HB.out⟩
 ·have hb1 : Hid (b = false) := Lib.hid (by rw [← hb.out]; exact decide_eq_false (fun e => h0 (by rw [← h1.out, hz.1 e, limbs_zero]; rfl)))
  have h0i : ((k1 : Int) == 0) = false := by simp [h0]
  clear hz hx
  go_enter Tryz.func39, Tryz.ntmps39
  go_wp2
  go_ret
  exact ⟨ret_bool hb1.out.symm, HB.out⟩
end Go.Proofs.YtmlpjffnmkndoaaGreatDoor
