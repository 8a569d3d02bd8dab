/- The program's natural numbers: the walks of over (for numbers of one limb) and gcd. The program's exact numbers: the walk of lowest. Conditions: none beyond what the claim form gives. -/
import Derived.Test.YtnlhalnjbkpdnaaGreatDoorNA
import Derived.Test.YtnlhalnjbkpdnaaGreatDoorAB
namespace Go.Proofs.YtnlhalnjbkpdnaaGreatDoor
open Go.RowKit
set_option linter.unusedVariables false
set_option linter.unusedSimpArgs false
/-- Two natural numbers. -/
def DivP (m n : Nat) (φ : Phi) (w : World) (e : Ending) (w' : World) : Prop :=
  ∃ a1 c1 a2 c2 φ', e = .returned (.tuple #[.slice a1 (limbs m).length c1, .slice a2 (limbs n).length c2]) ∧ Inv w.heap.size w φ φ' w' ∧ SlV φ' a1 c1 (limbs m) ∧ SlV φ' a2 c2 (limbs n)
/-- What over gives, for numbers up to M. -/
def DivOk (M : Nat) : Prop := ∀ (m n k1 k2 : Nat) (a1 a2 : Option Addr) (c1 c2 : Nat) (w : World) (φ : Phi), Fz φ w → SlV φ a1 c1 (limbs m) → SlV φ a2 c2 (limbs n) → Hid ((limbs m).length = k1) → Hid ((limbs n).length = k2) → m ≤ M → n ≤ M → 0 < n →
  Calls Tryz.prog 262 #[.slice a1 k1 c1, .slice a2 k2 c2] w (DivP (m / n) (m % n) φ w)
/-- The number that a slice holds in a world. -/
def natAtU (w : World) (v : Value) : Nat :=
  match v with
  | .slice (some a) n _ => LV ((List.range n).map fun k => match w.cell? ⟨a.block, a.off + k, none⟩ with | some (.int _ z) => z.toNat | _ => 0)
  | _ => 0
theorem natAt_u {φ : Phi} {w : World} {a : Option Addr} {c k y : Nat} (hφ : Fz φ w) (s : SlV φ a c (limbs y)) (hk : Hid ((limbs y).length = k)) : natAtU w (.slice a k c) = y := by
  cases k with
  | zero =>
    have : y = 0 := limbs_len0.1 hk.out
    subst this
    cases a <;> rfl
  | succ k =>
    obtain ⟨b, off, rfl, f⟩ := s.natD hk (k := 0) (by omega)
    show LV _ = y
    have : ((List.range (k + 1)).map fun j => match w.cell? ⟨b, off + j, none⟩ with | some (.int _ z) => z.toNat | _ => 0) = limbs y := by
      apply List.ext_getElem (by rw [List.length_map, List.length_range, hk.out])
      intro i h1 h2
      rw [List.getElem_map, List.getElem_range, (f i (by rw [← hk.out]; exact h2) w hφ).2, getD_elem0 0 _ _ h2]
      simp
    rw [this, LV_limbs]
/-- Two numbers in a loop. -/
structure GcP (w0 : World) (φ : Phi) (a1 : Option Addr) (c1 : Nat) (x : Nat) (a2 : Option Addr) (c2 : Nat) (y : Nat) (φ' : Phi) (w : World) : Prop where
  inv : Inv w0.heap.size w0 φ φ' w
  s1 : SlV φ' a1 c1 (limbs x)
  s2 : SlV φ' a2 c2 (limbs y)
set_option maxHeartbeats 1000000 in
theorem gcd_any {M : Nat} (hD : Hid (DivOk M)) {m n k1 k2 : Nat} {a1 a2 : Option Addr} {c1 c2 : Nat} {w : World} {φ : Phi} (hφ : Fz φ w) (s1 : SlV φ a1 c1 (limbs m)) (s2 : SlV φ a2 c2 (limbs n)) (h1 : Hid ((limbs m).length = k1)) (h2 : Hid ((limbs n).length = k2)) (hm : m ≤ M) (hn : n ≤ M) :
    Calls Tryz.prog 261 #[.slice a1 k1 c1, .slice a2 k2 c2] w (NatPost (Nat.gcd m n) φ w) := by
  have hS0 : Hid (GcP w φ a1 c1 m a2 c2 n φ w) := Lib.hid ⟨Inv.start hφ, s1, s2⟩
  clear s1 s2 hφ
  go_enter Tryz.func261, Tryz.ntmps261
  go_wp2
  go_loopw [0, 1] (fun u v wr => ∃ (x y k1 k2 : Nat) (a1 a2 : Option Addr) (c1 c2 : Nat) (φ' : Phi), x ≤ M ∧ y ≤ M ∧ u = .slice a1 k1 c1 ∧ v = .slice a2 k2 c2 ∧ Hid ((limbs x).length = k1) ∧ Hid ((limbs y).length = k2) ∧ Hid (Nat.gcd x y = Nat.gcd m n) ∧ Hid (GcP w φ a1 c1 x a2 c2 y φ' wr)) (fun _ v wr => natAtU wr v)
  case atStart => exact ⟨m, n, k1, k2, a1, a2, c1, c2, φ, hm, hn, rfl, rfl, h1, h2, Lib.hid rfl, hS0⟩
  case round =>
    clear hS0 hm hn h1 h2
    obtain ⟨x, y, k1, k2, a1, a2, c1, c2, φ', hx, hy, rfl, rfl, h1, h2, hg, hS⟩ := hrel
    by_cases h0 : k2 = 0
    · subst h0
      have hy : y = 0 := limbs_len0.1 h2.out
      have e : Hid (x = Nat.gcd m n) := Lib.hid (by rw [← hg.out, hy, Nat.gcd_zero_right])
      go_wp2
      go_ret
      refine ⟨a1, c1, φ', ?_, hS.out.inv, ?_⟩
      · rw [← e.out, h1.out]; rfl
      · rw [← e.out]; exact hS.out.s1
    · have hy0 : 0 < y := by
        rcases Nat.eq_zero_or_pos y with q | q
        · exfalso; apply h0; rw [← h2.out, q, limbs_zero]; rfl
        · exact q
      have hk0 : (0 : Int) < (k2 : Int) := by omega
      have hme : Hid (natAtU wr (.slice a2 k2 c2) = y) := Lib.hid (natAt_u hS.out.inv.fz hS.out.s2 h2)
      have hmod : x % y < y := Nat.mod_lt x hy0
      obtain ⟨k3, h3⟩ : ∃ k3, Hid ((limbs (x % y)).length = k3) := ⟨_, Lib.hid rfl⟩
      have hx3 : x % y ≤ M := by omega
      have hg2 : Hid (Nat.gcd y (x % y) = Nat.gcd m n) := Lib.hid (by rw [← hg.out, Nat.gcd_comm y, ← Nat.gcd_rec, Nat.gcd_comm])
      clear h0
      go_wp2_with (go_at_call 262; refine (hD.out x y k1 k2 a1 a2 c1 c2 _ φ' hS.out.inv.fz hS.out.s1 hS.out.s2 h1 h2 hx hy hy0).mono ?_; rintro e w2 ⟨a8, c8, a9, c9, φ9, rfl, hi9, hs8, hs9⟩; rw [h3.out])
      go_roundw
      case rel => exact ⟨y, x % y, k2, k3, a2, a9, c2, c9, φ9, hy, hx3, rfl, rfl, h2, h3, hg2, Lib.hid ⟨hS.out.inv.call hi9, hS.out.s2.mono hi9.le, hs9⟩⟩
      case measure =>
        rw [hme.out, natAt_u hi9.fz hs9 h3]
        exact hmod
end Go.Proofs.YtnlhalnjbkpdnaaGreatDoor

namespace Go.Proofs.YtnlhalnjbkpdnaaGreatDoor
open Go.RowKit
set_option linter.unusedVariables false
set_option linter.unusedSimpArgs false
/-- An exact number of the program's, handed back. -/
def FrP (neg : Bool) (n d : Nat) (φ : Phi) (w : World) (e : Ending) (w' : World) : Prop :=
  ∃ a1 c1 a2 c2 φ', e = .returned (.agg #[.bool neg, .slice a1 (limbs n).length c1, .slice a2 (limbs d).length c2]) ∧ Inv w.heap.size w φ φ' w' ∧ SlV φ' a1 c1 (limbs n) ∧ SlV φ' a2 c2 (limbs d)
set_option maxRecDepth 100000 in
set_option maxHeartbeats 2000000 in
theorem lowest_any {M : Nat} (hD : Hid (DivOk M)) {neg : Bool} {n d k1 k2 : Nat} {a1 a2 : Option Addr} {c1 c2 : Nat} {w : World} {φ : Phi} (hφ : Fz φ w) (s1 : SlV φ a1 c1 (limbs n)) (s2 : SlV φ a2 c2 (limbs d)) (h1 : Hid ((limbs n).length = k1)) (h2 : Hid ((limbs d).length = k2)) (hn : n ≤ M) (hd : d ≤ M) (hd0 : 0 < d) :
    Calls Tryz.prog 223 #[.agg #[.bool neg, .slice a1 k1 c1, .slice a2 k2 c2]] w (FrP (neg && decide (n / Nat.gcd n d ≠ 0)) (n / Nat.gcd n d) (d / Nat.gcd n d) φ w) := by
  have hBX0 := RsSt.start (Inv.start hφ) #[.bool neg, .slice a1 k1 c1, .slice a2 k2 c2] 203
  have hRS0 := RsSt.start hBX0.inv #[.bool false, .slice none 0 0, .slice none 0 0] 203
  have hBX := Lib.hid (hBX0.callB ((Below.refl _ _).alloc (Nat.le_refl _) (.cells #[.bool false, .slice none 0 0, .slice none 0 0] 203)))
  rw [alloc_sz] at hRS0
  have hRS := Lib.hid hRS0
  clear hBX0 hRS0
  obtain ⟨g, hg⟩ : ∃ g, Hid (Nat.gcd n d = g) := ⟨_, Lib.hid rfl⟩
  rw [hg.out]
  have hg0 : 0 < g := by rw [← hg.out]; exact gcd_dle hd0
  have hgM : g ≤ M := by rw [← hg.out]; exact Nat.le_trans (Nat.gcd_le_right _ hd0) hd
  obtain ⟨kg, hkg⟩ : ∃ k, Hid ((limbs g).length = k) := ⟨_, Lib.hid rfl⟩
  obtain ⟨q1, hq1⟩ : ∃ k, Hid ((limbs (n / g)).length = k) := ⟨_, Lib.hid rfl⟩
  obtain ⟨q2, hq2⟩ : ∃ k, Hid ((limbs (d / g)).length = k) := ⟨_, Lib.hid rfl⟩
  have S1 := Lib.hid s1
  have S2 := Lib.hid s2
  obtain ⟨ng, hng⟩ : ∃ b, Hid ((neg && decide (n / g ≠ 0)) = b) := ⟨_, Lib.hid rfl⟩
  rw [hng.out]
  clear s1 s2 hφ
  have hsg : Hid ((neg = false ∧ ng = false) ∨ (neg = true ∧ q1 = 0 ∧ ng = false) ∨ (neg = true ∧ 0 < q1 ∧ ng = true)) := by
    refine Lib.hid ?_
    have e := hng.out
    cases neg
    · exact .inl ⟨rfl, by rw [← e]; rfl⟩
    · by_cases h0 : q1 = 0
      · have : n / g = 0 := limbs_len0.1 (by rw [hq1.out]; exact h0)
        exact .inr (.inl ⟨rfl, h0, by rw [← e, this]; rfl⟩)
      · have : n / g ≠ 0 := fun e2 => h0 (by rw [← hq1.out, e2, limbs_zero]; rfl)
        exact .inr (.inr ⟨rfl, by omega, by rw [← e, decide_eq_true this]; rfl⟩)
  go_enter Tryz.func223, Tryz.ntmps223
  obtain ⟨bb, hbb⟩ : ∃ b, Hid (w.heap.size = b) := ⟨_, Lib.hid rfl⟩
  rw [hbb.out] at hBX hRS
  go_wp2_with (first
      | (go_at_call 261; rw [hbb.out]; refine (gcd_any hD hRS.out.inv.fz S1.out S2.out h1 h2 hn hd).mono ?_; rintro e w1 ⟨ag, cg, φ2, rfl, hi2, hs2⟩; rw [hg.out, hkg.out]; rw [hg.out] at hs2; have X2 := Lib.hid (hBX.out.call hi2); have H2 := Lib.hid (hRS.out.call hi2); have L2 := Lib.hid hi2.le; have SG := Lib.hid hs2; have x0 : w1.cell? ⟨bb, 0, none⟩ = some (.bool neg) := X2.out.k.cell 0; have x1 : w1.cell? ⟨bb, 1, none⟩ = some (.slice a1 k1 c1) := X2.out.k.cell 1; have x2 : w1.cell? ⟨bb, 2, none⟩ = some (.slice a2 k2 c2) := X2.out.k.cell 2; clear hi2 hs2)
      | (go_at_call 262; (refine (hD.out d g k2 kg a2 ag c2 cg _ φ3 (X3.out.set 1 (.slice a3 q1 c3)).inv.fz (S2.out.mono (L2.out.trans L3.out)) SG3.out h2 hkg hd hgM hg0).mono ?_); rintro e w4 ⟨a5, c5, a6, c6, φ4, rfl, hi4, hs5, hs6⟩; rw [hq2.out]; have X4 := Lib.hid ((X3.out.set 1 (.slice a3 q1 c3)).call hi4); have H4 := Lib.hid ((H3.out.oth X3.out (by omega) 1 (.slice a3 q1 c3)).call hi4); have SN4 := Lib.hid (SN.out.mono hi4.le); have SD := Lib.hid hs5; have z0 : w4.cell? ⟨bb, 0, none⟩ = some (.bool neg) := X4.out.k.cell 0; have z1 : w4.cell? ⟨bb, 1, none⟩ = some (.slice a3 q1 c3) := X4.out.k.cell 1; have z2 : w4.cell? ⟨bb, 2, none⟩ = some (.slice a2 k2 c2) := X4.out.k.cell 2; have z3 := X4.out.k.frz 0; have z4 := X4.out.k.frz 1; have z5 := X4.out.k.frz 2; obtain ⟨v0, v1, v2, v3, v4, v5⟩ := H4.out.facts; clear hi4 hs5 hs6 y0 y1 y2 y3 y4 y5)
      | (go_at_call 262; (refine (hD.out n g k1 kg a1 ag c1 cg _ φ2 X2.out.inv.fz (S1.out.mono L2.out) SG.out h1 hkg hn hgM hg0).mono ?_); rintro e w3 ⟨a3, c3, a4, c4, φ3, rfl, hi3, hs3, hs4⟩; rw [hq1.out]; have X3 := Lib.hid (X2.out.call hi3); have H3 := Lib.hid (H2.out.call hi3); have L3 := Lib.hid hi3.le; have SG3 := Lib.hid (SG.out.mono hi3.le); have SN := Lib.hid hs3; have y0 : w3.cell? ⟨bb, 0, none⟩ = some (.bool neg) := X3.out.k.cell 0; have y1 : w3.cell? ⟨bb, 1, none⟩ = some (.slice a1 k1 c1) := X3.out.k.cell 1; have y2 : w3.cell? ⟨bb, 2, none⟩ = some (.slice a2 k2 c2) := X3.out.k.cell 2; have y3 := X3.out.k.frz 0; have y4 := X3.out.k.frz 1; have y5 := X3.out.k.frz 2; clear hi3 hs3 hs4 x0 x1 x2))
  all_goals first
    | (have hv : decide (0 < q1) = ng := by
         rcases hsg.out with ⟨h, h'⟩ | ⟨h, h', h''⟩ | ⟨h, h', h''⟩
         · exact absurd h (by simp [*])
         · rw [h', h'']; rfl
         · rw [h'']; exact decide_eq_true h'
       have hXA := X4.out.set 2 (.slice a5 q2 c5)
       have hHA := H4.out.oth X4.out (by omega) 2 (.slice a5 q2 c5)
       have hHB := hHA.oth hXA (by omega) 0 (.bool (decide (0 < q1)))
       have hZ := Lib.hid (((hHB.set 0 (.bool (decide (0 < q1)))).set 1 (.slice a3 q1 c3)).set 2 (.slice a5 q2 c5))
       have e0 : _ = some (Value.bool (decide (0 < q1))) := hZ.out.k.cell 0
       have e1 : _ = some (Value.slice a3 q1 c3) := hZ.out.k.cell 1
       have e2 : _ = some (Value.slice a5 q2 c5) := hZ.out.k.cell 2
       refine bodyPost_ret (v := .agg #[(.bool (decide (0 < q1))), (.slice a3 q1 c3), (.slice a5 q2 c5)]) (by simp [results, Tryz.results223, go_sem, e0, e1, e2]) rfl ?_
       exact ⟨a3, c3, a5, c5, φ4, by rw [hq1.out, hq2.out, hv], hZ.out.inv, SN4.out, SD.out⟩
       )
    | (have hv : false = ng := by
         rcases hsg.out with ⟨h, h'⟩ | ⟨h, h', h''⟩ | ⟨h, h', h''⟩
         · exact h'.symm
         · exact h''.symm
         · exact absurd h (by assumption)
       have hXA := X4.out.set 2 (.slice a5 q2 c5)
       have hHA := H4.out.oth X4.out (by omega) 2 (.slice a5 q2 c5)
       have hHB := hHA.oth hXA (by omega) 0 (.bool false)
       have hZ := Lib.hid (((hHB.set 0 (.bool false)).set 1 (.slice a3 q1 c3)).set 2 (.slice a5 q2 c5))
       have e0 : _ = some (Value.bool false) := hZ.out.k.cell 0
       have e1 : _ = some (Value.slice a3 q1 c3) := hZ.out.k.cell 1
       have e2 : _ = some (Value.slice a5 q2 c5) := hZ.out.k.cell 2
       refine bodyPost_ret (v := .agg #[(.bool false), (.slice a3 q1 c3), (.slice a5 q2 c5)]) (by simp [results, Tryz.results223, go_sem, e0, e1, e2]) rfl ?_
       exact ⟨a3, c3, a5, c5, φ4, by rw [hq1.out, hq2.out, hv], hZ.out.inv, SN4.out, SD.out⟩
       )
end Go.Proofs.YtnlhalnjbkpdnaaGreatDoor
