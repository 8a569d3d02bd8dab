/- The program's reading of ratios: the walks of CheckRatio, FracOf and Short. Conditions: none beyond what the claim form gives. -/
import Derived.Test.YtmlpjffnmkndoaaGreatDoorP11
import Derived.Test.YtmlpjffnmkndoaaGreatDoorSh3
namespace Go.Proofs.YtmlpjffnmkndoaaGreatDoor
open Go.RowKit
set_option linter.unusedVariables false
set_option linter.unusedSimpArgs false
def p10 (k : Nat) : Nat := 10 ^ k
theorem p10_mono {j k : Nat} (h : j ≤ k) : 10 ^ j ≤ p10 k := Nat.pow_le_pow_right (by decide) h
/-- What fractionOf gives of any ratio. -/
def FfA (n d : ByteArray) (φ : Phi) (w : World) (e : Ending) (w' : World) : Prop :=
 ∃ v f φ', e = .returned (.tuple #[v, .int .i64 f]) ∧ f = ratF n d ∧ Inv w.heap.size w φ φ' w' ∧ (f = 0 → FfX φ' v (ratX n d) (dV (bodyB n).data.toList) (dV d.data.toList)) ∧ ∃ (a : Bool) (s1 : Option Addr) (n1 c1 : Nat) (s2 : Option Addr) (n2 c2 : Nat), v = .agg #[.bool a, .slice s1 n1 c1, .slice s2 n2 c2]
theorem bodyB_size (n : ByteArray) : (bodyB n).size ≤ n.size := by
 show (bodyB n).data.size ≤ n.data.size
 unfold bodyB Lib.trimPrefix
 split
 ·simp
 ·simp
theorem fracOf_any {M : Nat} (hD : Hid (DivOk M)) (hM : p10 2000 ≤ M) {n d : ByteArray} (hn : n.size ≤ 9223372036854775807) (hd : d.size ≤ 9223372036854775807) {w : World} {φ : Phi} (hφ : Fz φ w) :
  Calls Tryz.prog 88 #[.agg #[.string n, .string d]] w (FfA n d φ w) := by
 have hb := bodyB_size n
 by_cases h1 : 2000 < (bodyB n).size ∨ 2000 < d.size
 ·refine (fracOf_large (by omega) hd h1 (f := ratF n d) (Lib.hid (ratF_large h1)) hφ).mono ?_
  rintro e w' ⟨rfl, hb⟩
  exact ⟨_, _, φ, rfl, rfl, (Inv.start hφ).callB hb, fun h => absurd ((ratF_large h1).symm.trans h) (by decide), _, _, _, _, _, _, _, rfl⟩
 ·by_cases h2 : forP n d
  ·have l1 : dV (bodyB n).data.toList ≤ M := by
    have h3 := dV_lt h2.1.2.1
    have h4 := p10_mono (show (bodyB n).data.toList.length ≤ 2000 from (by omega : (bodyB n).size ≤ 2000))
    exact Nat.le_trans (Nat.le_of_lt h3) (Nat.le_trans h4 hM)
   have l2 : dV d.data.toList ≤ M := by
    have h3 := dV_lt h2.2.1.2.1
    have h4 := p10_mono (show d.data.toList.length ≤ 2000 from (by omega : d.size ≤ 2000))
    exact Nat.le_trans (Nat.le_of_lt h3) (Nat.le_trans h4 hM)
   refine (fracOf_ok hD l1 l2 h1 h2 hφ).mono ?_
   rintro e w' ⟨hA, hB⟩
   by_cases h3 : Nat.gcd (dV (bodyB n).data.toList) (dV d.data.toList) = 1
   ·obtain ⟨a1, c1, a2, c2, φ', rfl, hi, s1, s2⟩ := hA h3
    exact ⟨_, 0, φ', rfl, (ratF_zero h1 h2 h3).symm, hi, fun _ => ⟨_, _, _, a1, c1, a2, c2, rfl, s1, s2, numP_pos h2.2.1 h2.2.2.1, Nat.le_refl _, Nat.le_refl _, rfl⟩, _, _, _, _, _, _, _, rfl⟩
   ·obtain ⟨rfl, hb⟩ := hB h3
    exact ⟨_, 3, φ, rfl, (ratF_gcd h1 h2 h3).symm, (Inv.start hφ).callB hb, fun h => absurd h (by decide), _, _, _, _, _, _, _, rfl⟩
  ·refine (fracOf_form h1 h2 (f := ratF n d) (Lib.hid (ratF_form h1 h2)) hφ).mono ?_
   rintro e w' ⟨rfl, hb⟩
   exact ⟨_, _, φ, rfl, rfl, (Inv.start hφ).callB hb, fun h => absurd ((ratF_form h1 h2).symm.trans h) (by decide), _, _, _, _, _, _, _, rfl⟩
set_option maxHeartbeats 1000000 in
theorem CheckRatio_any {M : Nat} (hD : Hid (DivOk M)) (hM : p10 2000 ≤ M) {n d : ByteArray} (hn : n.size ≤ 9223372036854775807) (hd : d.size ≤ 9223372036854775807) {f : Int} (hf : Hid (ratF n d = f)) {w : World} {φ : Phi} (hφ : Fz φ w) :
  Calls Tryz.prog 119 #[.agg #[.string n, .string d]] w (fun e w' => e = .returned (.int .i64 f) ∧ Below w.heap.size w w') := by
 have HM := Lib.hid hM
 have HI := Lib.hid ((Inv.start hφ).alloc (.cells #[.string n, .string d] 32))
 have hB : Blk (w.alloc (.cells #[.string n, .string d] 32)) w.heap.size _ _ := Blk.new _ _ _
 have x0 : _ = some (Value.string n) := hB.cell 0
 have x1 : _ = some (Value.string d) := hB.cell 1
 clear hM hφ hB
 go_enter Tryz.func119, Tryz.ntmps119
 go_wp2_with (go_at_call 88; (with_reducible refine (fracOf_any hD HM.out hn hd HI.out.fz).mono ?_); rintro e w1 ⟨v, f', φ1, rfl, rfl, hi, _, a1, b1, n1, c1, b2, n2, c2, rfl⟩; have HI1 := Lib.hid (HI.out.call hi).bel; clear hi)
 rw [hf.out]
 go_ret
 exact ⟨rfl, HI1.out.alloc HI1.out.size _⟩
set_option maxHeartbeats 1000000 in
theorem FracOf_any {M : Nat} (hD : Hid (DivOk M)) (hM : p10 2000 ≤ M) {n d : ByteArray} (hn : n.size ≤ 9223372036854775807) (hd : d.size ≤ 9223372036854775807) (hf : Hid (ratF n d = 0)) {w : World} {φ : Phi} (hφ : Fz φ w) :
  Calls Tryz.prog 42 #[.agg #[.string n, .string d]] w (FfXP (ratX n d) (dV (bodyB n).data.toList) (dV d.data.toList) φ w) := by
 have HM := Lib.hid hM
 obtain ⟨x, hx⟩ : ∃ x, Hid (ratX n d = x) := ⟨_, Lib.hid rfl⟩
 obtain ⟨N, hN⟩ : ∃ x, Hid (dV (bodyB n).data.toList = x) := ⟨_, Lib.hid rfl⟩
 obtain ⟨D, hDn⟩ : ∃ x, Hid (dV d.data.toList = x) := ⟨_, Lib.hid rfl⟩
 have hI := (Inv.start hφ).alloc (.cells #[.string n, .string d] 32)
 have hR := RsSt.start hI #[.bool false, .slice none 0 0, .slice none 0 0] 70
 rw [alloc_sz] at hR
 have HR := Lib.hid hR
 obtain ⟨bb, hbb⟩ : ∃ b, w.heap.size = b := ⟨_, rfl⟩
 rw [hbb] at HR
 have HBB := Lib.hid hbb
 clear hM hφ hI hR hbb
 rw [hx.out, hN.out, hDn.out]
 go_enter Tryz.func42, Tryz.ntmps42
 go_wp2_with (go_at_call 88; (with_reducible refine (fracOf_any hD HM.out hn hd HR.out.inv.fz).mono ?_); rintro e w1 ⟨v, f', φ1, rfl, rfl, hi, hv, a1, b1, n1, c1, b2, n2, c2, rfl⟩; rw [hx.out, hN.out, hDn.out, hf.out] at hv; rw [hf.out]; have HV := Lib.hid (hv rfl); have H1 := Lib.hid ((HR.out.call hi).callB ((Below.refl _ _).alloc (Nat.le_refl _) (.cells #[.bool a1, .slice b1 n1 c1, .slice b2 n2 c2] 68))); rw [← HBB.out] at H1; obtain ⟨y0, y1, y2, y3, y4, y5⟩ := H1.out.facts; clear hi hv)
 have hIZ := Lib.hid (((H1.out.inv.setCell H1.out.l H1.out.f (off := 0) (Value.bool a1)).setCell H1.out.l H1.out.f (off := 1) (Value.slice b1 n1 c1)).setCell H1.out.l H1.out.f (off := 2) (Value.slice b2 n2 c2))
 have hBZ := Lib.hid (((H1.out.k.set 0 (Value.bool a1)).set 1 (Value.slice b1 n1 c1)).set 2 (Value.slice b2 n2 c2))
 have e0 : _ = some (Value.bool a1) := hBZ.out.cell 0
 have e1 : _ = some (Value.slice b1 n1 c1) := hBZ.out.cell 1
 have e2 : _ = some (Value.slice b2 n2 c2) := hBZ.out.cell 2
 (try simp only [Exit.inBlock, Exit.then])
 refine bodyPost_ret (v := .agg #[(Value.bool a1), (Value.slice b1 n1 c1), (Value.slice b2 n2 c2)]) (by simp [results, Tryz.results42, go_sem, e0, e1, e2]) rfl ?_
 exact ⟨_, φ1, rfl, hIZ.out, HV.out⟩
theorem trimPx {n B : ByteArray} (hB : Hid (bodyB n = B)) (w : World) :
  Calls Tryz.prog 48 #[.string n, .string ⟨#[45]⟩] w (fun e w' => e = .returned (.string B) ∧ w = w') := by
 refine (Tryz.strings_TrimPrefix n ⟨#[45]⟩ w).mono ?_
 rintro e w' ⟨rfl, rfl⟩
 refine ⟨?_, rfl⟩
 rw [← hB.out]; rfl
set_option maxHeartbeats 1000000 in
theorem Short_any {M : Nat} (hD : Hid (DivOk M)) (hM : p10 2000 ≤ M) {n d : ByteArray} (hn : n.size ≤ 9223372036854775807) (hd : d.size ≤ 9223372036854775807) {f : Int} (hf : Hid (shoF n d = f)) {w : World} {φ : Phi} (hφ : Fz φ w) :
  Calls Tryz.prog 87 #[.agg #[.string n, .string d]] w (fun e w' => e = .returned (.int .i64 f) ∧ Below w.heap.size w w') := by
 have HM := Lib.hid hM
 have HI := Lib.hid ((Inv.start hφ).alloc (.cells #[.string n, .string d] 32))
 have hB : Blk (w.alloc (.cells #[.string n, .string d] 32)) w.heap.size _ _ := Blk.new _ _ _
 have HB := Lib.hid hB
 obtain ⟨B, hBB⟩ : ∃ x, Hid (bodyB n = x) := ⟨_, Lib.hid rfl⟩
 obtain ⟨g, hg⟩ : ∃ g, Hid (ratF n d = g) := ⟨_, Lib.hid rfl⟩
 have hq := hf.out
 unfold shoF at hq
 rw [hg.out, hBB.out] at hq
 clear hM hφ hB hf
 by_cases h0 : g = 0
 ·subst h0
  rw [if_neg (by simp)] at hq
  by_cases h1 : 12 < B.size
  ·rw [if_pos (.inl h1)] at hq
   have h1i : (12 : Int) < (B.size : Int) := by omega
   have HQ := Lib.hid hq
   clear hq h1
   go_enter Tryz.func87, Tryz.ntmps87
   go_wp2_with (first
    | (go_at_call 119; (with_reducible refine (CheckRatio_any hD HM.out hn hd hg HI.out.fz).mono ?_); rintro e w1 ⟨rfl, hb⟩; have HI1 := Lib.hid (HI.out.bel.trans (hb.mono HI.out.size)); have k1 := HB.out.callB hb; have x0 : w1.cell? ⟨w.heap.size, 0, none⟩ = some (.string n) := k1.cell 0; have x1 : w1.cell? ⟨w.heap.size, 1, none⟩ = some (.string d) := k1.cell 1; clear k1 hb)
    | (go_at_call 48; (with_reducible refine (trimPx hBB _).mono ?_); rintro e w' ⟨rfl, rfl⟩))
   go_ret
   exact ⟨ret_int HQ.out, HI1.out⟩
  ·have h1i : ¬ (12 : Int) < (B.size : Int) := by omega
   by_cases h2 : 12 < d.size
   ·rw [if_pos (.inr h2)] at hq
    have h2i : (12 : Int) < (d.size : Int) := by omega
    have HQ := Lib.hid hq
    clear hq h1 h2
    go_enter Tryz.func87, Tryz.ntmps87
    go_wp2_with (first
     | (go_at_call 119; (with_reducible refine (CheckRatio_any hD HM.out hn hd hg HI.out.fz).mono ?_); rintro e w1 ⟨rfl, hb⟩; have HI1 := Lib.hid (HI.out.bel.trans (hb.mono HI.out.size)); have k1 := HB.out.callB hb; have x0 : w1.cell? ⟨w.heap.size, 0, none⟩ = some (.string n) := k1.cell 0; have x1 : w1.cell? ⟨w.heap.size, 1, none⟩ = some (.string d) := k1.cell 1; clear k1 hb)
     | (go_at_call 48; (with_reducible refine (trimPx hBB _).mono ?_); rintro e w' ⟨rfl, rfl⟩))
    go_ret
    exact ⟨ret_int HQ.out, HI1.out⟩
   ·have h2i : ¬ (12 : Int) < (d.size : Int) := by omega
    rw [if_neg (by omega)] at hq
    have HQ := Lib.hid hq
    clear hq h1 h2
    go_enter Tryz.func87, Tryz.ntmps87
    go_wp2_with (first
     | (go_at_call 119; (with_reducible refine (CheckRatio_any hD HM.out hn hd hg HI.out.fz).mono ?_); rintro e w1 ⟨rfl, hb⟩; have HI1 := Lib.hid (HI.out.bel.trans (hb.mono HI.out.size)); have k1 := HB.out.callB hb; have x0 : w1.cell? ⟨w.heap.size, 0, none⟩ = some (.string n) := k1.cell 0; have x1 : w1.cell? ⟨w.heap.size, 1, none⟩ = some (.string d) := k1.cell 1; clear k1 hb)
     | (go_at_call 48; (with_reducible refine (trimPx hBB _).mono ?_); rintro e w' ⟨rfl, rfl⟩))
    go_ret
    exact ⟨ret_int HQ.out, HI1.out⟩
 ·rw [if_pos h0] at hq
  have h0i : (g == 0) = false := by simp [h0]
  have h0j : (g != 0) = true := by simp [h0]
  have HQ := Lib.hid hq
  clear hq h0
  go_enter Tryz.func87, Tryz.ntmps87
  go_wp2_with (go_at_call 119; (with_reducible refine (CheckRatio_any hD HM.out hn hd hg HI.out.fz).mono ?_); rintro e w1 ⟨rfl, hb⟩; have HI1 := Lib.hid (HI.out.bel.trans (hb.mono HI.out.size)); clear hb)
  go_ret
  exact ⟨ret_int HQ.out, HI1.out⟩
end Go.Proofs.YtmlpjffnmkndoaaGreatDoor
