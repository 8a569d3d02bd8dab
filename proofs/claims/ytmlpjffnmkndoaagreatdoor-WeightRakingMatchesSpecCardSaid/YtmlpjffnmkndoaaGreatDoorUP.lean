/- The plain law of rounding. The walks of the program's power10 and Round. Conditions: none beyond what the claim form gives. -/
import Derived.Test.YtmlpjffnmkndoaaGreatDoorAB
import Derived.Test.YtmlpjffnmkndoaaGreatDoorBL
import Derived.Test.YtmlpjffnmkndoaaGreatDoorPB
import Derived.Test.YtmlpjffnmkndoaaGreatDoorP16
import Derived.Test.YtmlpjffnmkndoaaGreatDoorSh1
namespace Go.Proofs.YtmlpjffnmkndoaaGreatDoor
open Go.RowKit
set_option linter.unusedVariables false
set_option linter.unusedSimpArgs false
/-- The numerator of n / d, rounded to multiples of 1 / P. -/
def rnN (n d P : Nat) : Nat := (n * P * 2 + d) / (d * 2)
def rndQ (P : Nat) (x : Rat) : Rat := rat (decide (x < 0)) (rnN x.num.natAbs x.den P) P
theorem rnN_mul {g n d P : Nat} (hg : 0 < g) : rnN (g * n) (g * d) P = rnN n d P := by
 unfold rnN
 have e1 : g * n * P * 2 + g * d = g * (n * P * 2 + d) := by rw [Nat.mul_add, Nat.mul_assoc g n P, Nat.mul_assoc g (n * P) 2]
 have e2 : g * d * 2 = g * (d * 2) := Nat.mul_assoc ..
 rw [e1, e2, Nat.mul_div_mul_left _ _ hg]
theorem rnN_eq {neg : Bool} {n d P : Nat} {x : Rat} (hd : 0 < d) (hx : rat neg n d = x) : rnN n d P = rnN x.num.natAbs x.den P := by
 subst hx
 have hd' : d ≠ 0 := by omega
 have hg : 0 < n.gcd d := Nat.gcd_pos_of_pos_right n hd
 have h := rnN_mul (n := n / n.gcd d) (d := d / n.gcd d) (P := P) hg
 rw [Nat.mul_div_cancel' (Nat.gcd_dvd_left n d), Nat.mul_div_cancel' (Nat.gcd_dvd_right n d)] at h
 rw [rat_numAbs hd', rat_den hd', h]
theorem rnN_zero {d P : Nat} : rnN 0 d P = 0 := by
 unfold rnN
 rw [Nat.zero_mul, Nat.zero_mul, Nat.zero_add]
 rcases Nat.eq_zero_or_pos d with h | h
 ·subst h; rfl
 ·exact Nat.div_eq_of_lt (by omega)
theorem rat_zero_n (s : Bool) (d : Nat) : rat s 0 d = 0 := by
 unfold rat
 have : sgn s 0 = 0 := by cases s <;> rfl
 rw [this, Rat.zero_mkRat]
/-- A rounded number, from any fraction that is the number. -/
theorem rndQ_rep {neg s : Bool} {n d P : Nat} {x : Rat} (hd : 0 < d) (hx : rat neg n d = x) (hs : rnN n d P ≠ 0 → s = neg) : rat s (rnN n d P) P = rndQ P x := by
 unfold rndQ
 rw [← rnN_eq (P := P) hd hx]
 rcases Nat.eq_zero_or_pos (rnN n d P) with h | h
 ·rw [h, rat_zero_n, rat_zero_n]
 ·have h1 := hs (by omega)
  subst h1
  have hn : n ≠ 0 := by intro e; subst e; rw [rnN_zero] at h; omega
  have hd' : d ≠ 0 := by omega
  have hlt : x < 0 ↔ s = true := by
   have h1 : rat s n d < 0 ↔ (rat s n d).num < 0 := by rw [← Rat.not_le, ← Rat.num_nonneg, Int.not_le]
   rw [← hx, h1, rat_neg hd']
   have hg : 0 < n.gcd d := Nat.gcd_pos_of_pos_right n hd
   have : n / n.gcd d ≠ 0 := by
    have := Nat.div_pos (Nat.le_of_dvd (by omega) (Nat.gcd_dvd_left n d)) hg
    omega
   exact ⟨fun h => h.1, fun h => ⟨h, this⟩⟩
  cases s
  ·rw [decide_eq_false (by rw [hlt]; decide)]
  ·rw [decide_eq_true (hlt.2 rfl)]
/-- Rounding by quotient and rest. -/
theorem rnN_rest {n d P : Nat} (hd : 0 < d) : rnN n d P = n * P / d + (if d ≤ n * P % d + n * P % d then 1 else 0) := by
 unfold rnN
 generalize n * P = a
 have h1 := Nat.div_add_mod a d
 have h2 := Nat.mod_lt a hd
 generalize a / d = q at *
 generalize a % d = r at *
 subst h1
 rw [show (d * q + r) * 2 + d = (r + r + d) + d * 2 * q from by rw [Nat.add_mul, Nat.mul_right_comm]; omega, Nat.add_mul_div_left _ _ (by omega)]
 split
 ·next h =>
  have : (r + r + d) / (d * 2) = 1 := Nat.div_eq_of_lt_le (by omega) (by omega)
  omega
 ·next h =>
  have : (r + r + d) / (d * 2) = 0 := Nat.div_eq_of_lt (by omega)
  omega
theorem rnN_le {n d P B : Nat} (hd : 0 < d) (h : n ≤ B * d) : rnN n d P ≤ B * P := by
 unfold rnN
 refine Nat.le_of_lt_succ (Nat.div_lt_of_lt_mul ?_)
 have h1 : n * P ≤ B * d * P := Nat.mul_le_mul_right P h
 have h2 : B * d * P = d * (B * P) := by rw [Nat.mul_comm B d, Nat.mul_assoc]
 rw [h2] at h1
 have h3 : d * 2 * (B * P).succ = d * (B * P) * 2 + d * 2 := by rw [Nat.mul_succ, Nat.mul_right_comm]
 rw [h3]
 omega
theorem num_le {x : Rat} {B : Nat} (h0 : 0 ≤ x) (h : x ≤ ((B : Int) : Rat)) : x.num.natAbs ≤ B * x.den := by
 have h1 := Rat.num_nonneg.2 h0
 rw [Rat.le_iff] at h
 have e1 : ((B : Int) : Rat).num = (B : Int) := rfl
 have e2 : ((B : Int) : Rat).den = 1 := rfl
 rw [e1, e2] at h
 have h2 : x.num ≤ (B : Int) * (x.den : Int) := by simpa using h
 have h3 : ((x.num.natAbs : Nat) : Int) = x.num := Int.natAbs_of_nonneg h1
 have h4 : ((B * x.den : Nat) : Int) = (B : Int) * (x.den : Int) := Int.natCast_mul ..
 omega
theorem rndQ_nn {P : Nat} {x : Rat} (h0 : 0 ≤ x) : 0 ≤ rndQ P x := by
 unfold rndQ
 rw [decide_eq_false (Rat.not_lt.2 h0)]
 rw [rat_div]
 exact Rat.divInt_nonneg (by simp [sgn]) (by omega)
/-- 1 and noughts. -/
theorem ten_all {z : ByteArray} {p : Nat} (hz : bl (List.replicate p 48) = z) : AllD (⟨#[49]⟩ ++ z) ∧ dV ((⟨#[49]⟩ : ByteArray) ++ z).data.toList = 10 ^ p ∧ ((⟨#[49]⟩ : ByteArray) ++ z).size = p + 1 := by
 subst hz
 have e : ((⟨#[49]⟩ : ByteArray) ++ bl (List.replicate p 48)).data.toList = 49 :: List.replicate p 48 := by
  rw [show (⟨#[49]⟩ : ByteArray) = bl [49] from rfl, bl_app, bl_list]; rfl
 refine ⟨?_, ?_, ?_⟩
 ·intro c hc
  rw [e] at hc
  rcases List.mem_cons.1 hc with h | h
  ·subst h; exact ⟨by decide, by decide⟩
  ·have := List.eq_of_mem_replicate h
   subst this; exact ⟨by decide, by decide⟩
 ·rw [e, show (49 :: List.replicate p 48 : List UInt8) = [49] ++ List.replicate p 48 from rfl, dV_app, List.length_replicate]
  have h0 : ∀ k, dV (List.replicate k 48) = 0 := fun k => by
   induction k with
   | zero => rfl
   | succ k ih => rw [List.replicate_succ, show (48 :: List.replicate k 48 : List UInt8) = [48] ++ List.replicate k 48 from rfl, dV_app, ih]; simp [dV]
  rw [h0]
  simp [dV]
 ·show ((⟨#[49]⟩ : ByteArray) ++ bl (List.replicate p 48)).data.size = p + 1
  rw [← Array.length_toList, e]
  simp
end Go.Proofs.YtmlpjffnmkndoaaGreatDoor

namespace Go.Proofs.YtmlpjffnmkndoaaGreatDoor
open Go.RowKit
set_option linter.unusedVariables false
set_option linter.unusedSimpArgs false
theorem repeat48P : ∀ k, Lib.repeatL [48] k = List.replicate k 48
 | 0 => rfl
 | k + 1 => by rw [Lib.repeatL, repeat48P k, List.replicate_succ]; rfl
theorem RepeatP_any {k : Nat} (hk : k ≤ 1000) (w : World) :
  Calls Tryz.prog 105 #[.string ⟨#[48]⟩, .int .i64 (k : Int)] w (fun e w' => e = .returned (.string (bl (List.replicate k 48))) ∧ Below w.heap.size w w') := by
 refine (Any.strings_Repeat Tryz.lays105 Tryz.Builder_Extra_105 ⟨#[48]⟩ k w (by omega) (by show 1 * k ≤ _; omega)).mono ?_
 rintro e w' ⟨rfl, hb⟩
 exact ⟨by rw [show (⟨#[48]⟩ : ByteArray).data.toList = [48] from rfl, repeat48P]; rfl, hb⟩
set_option maxHeartbeats 1000000 in
theorem power10_any {p P : Nat} (hp : p ≤ 1000) (hP : Hid (10 ^ p = P)) {w : World} {φ : Phi} (hφ : Fz φ w) :
  Calls Tryz.prog 94 #[.int .i64 (p : Int)] w (NatPost P φ w) := by
 obtain ⟨z, hz⟩ : ∃ z, Hid (bl (List.replicate p 48) = z) := ⟨_, Lib.hid rfl⟩
 obtain ⟨h1, h2, h3⟩ := ten_all hz.out
 rw [hP.out] at h2
 have H1 := Lib.hid h1
 have H2 := Lib.hid h2
 have h4 : ((⟨#[49]⟩ : ByteArray) ++ z).size ≤ 2000000000 := by rw [h3]; omega
 have hzs : ¬ 9223372036854775807 < 1 + z.size := by rw [← hz.out, bl_size, List.length_replicate]; omega
 have HI := Lib.hid (Inv.start hφ)
 clear hφ h1 h2 h3
 go_enter Tryz.func94, Tryz.ntmps94
 go_wp2_with (first
  | (go_at_call 122; (with_reducible refine (ofDigits_any h4 H1 H2 I1.out.fz).mono ?_); rintro e w2 ⟨a2, c2, φ2, rfl, hi2, s2⟩; have I2 := Lib.hid (I1.out.call hi2); have S2 := Lib.hid s2; clear hi2 s2)
  | (go_at_call 105; (with_reducible refine (RepeatP_any hp _).mono ?_); rintro e w1 ⟨rfl, hb1⟩; rw [hz.out]; have I1 := Lib.hid (HI.out.callB hb1); clear hb1)
  | fail)
 go_ret
 exact ⟨a2, c2, φ2, rfl, I2.out, S2.out⟩
set_option maxRecDepth 100000 in
set_option maxHeartbeats 4000000 in
theorem Round_any {M : Nat} (hD : Hid (DivOk M)) (hM : LenB M) {v : Value} {x : Rat} {N D p P N2 : Nat} (hp : p ≤ 1000) (hP : Hid (10 ^ p = P)) (hP0 : 0 < P) (hM1 : N * P * 2 + D ≤ M) (hM2 : D * 2 ≤ M) (hM3 : N ≤ M) (hM4 : P ≤ M) (hq : rnN x.num.natAbs x.den P ≤ N2) {w : World} {φ : Phi} (hφ : Fz φ w) (hv : FfX φ v x N D) :
    Calls Tryz.prog 46 #[v, .int .i64 (p : Int)] w (FfXP (rndQ P x) N2 P φ w) := by
  obtain ⟨g1, n, d, p1, p2, a1, c1, a2, c2, rfl, s1, s2, l1, l2, hd0, hnN, hdD, hx⟩ := hv.open
  have hqe := rnN_eq (P := P) hd0 hx
  have b1 : p1 ≤ 1000000000 := by rw [← l1.out]; exact hM.len (by omega)
  have b2 : p2 ≤ 1000000000 := by rw [← l2.out]; exact hM.len (by omega)
  have hnM : n * P * 2 + d ≤ M := Nat.le_trans (Nat.add_le_add (Nat.mul_le_mul_right 2 (Nat.mul_le_mul_right P hnN)) hdD) hM1
  obtain ⟨A, hA⟩ : ∃ A, Hid (n * P = A) := ⟨_, Lib.hid rfl⟩
  obtain ⟨A2, hA2⟩ : ∃ x, Hid (A * 2 = x) := ⟨_, Lib.hid rfl⟩
  obtain ⟨A3, hA3⟩ : ∃ x, Hid (A2 + d = x) := ⟨_, Lib.hid rfl⟩
  obtain ⟨E2, hE2⟩ : ∃ x, Hid (d * 2 = x) := ⟨_, Lib.hid rfl⟩
  obtain ⟨q, hqq⟩ : ∃ q, Hid (A3 / E2 = q) := ⟨_, Lib.hid rfl⟩
  have hrn : Hid (rnN n d P = q) := Lib.hid (by unfold rnN; rw [hA.out, hA2.out, hA3.out, hE2.out, hqq.out])
  rw [hA.out, hA2.out, hA3.out] at hnM
  have hE2M : E2 ≤ M := by rw [← hE2.out]; omega
  have hE20 : 0 < E2 := by rw [← hE2.out]; omega
  have hA3l := hA3.out
  have hA2l := hA2.out
  have hqN : q ≤ N2 := by rw [← hrn.out, hqe]; exact hq
  obtain ⟨kP, hkP⟩ : ∃ k, Hid ((limbs P).length = k) := ⟨_, Lib.hid rfl⟩
  obtain ⟨kA, hkA⟩ : ∃ k, Hid ((limbs A).length = k) := ⟨_, Lib.hid rfl⟩
  obtain ⟨kA2, hkA2⟩ : ∃ k, Hid ((limbs A2).length = k) := ⟨_, Lib.hid rfl⟩
  obtain ⟨kA3, hkA3⟩ : ∃ k, Hid ((limbs A3).length = k) := ⟨_, Lib.hid rfl⟩
  obtain ⟨kE, hkE⟩ : ∃ k, Hid ((limbs E2).length = k) := ⟨_, Lib.hid rfl⟩
  obtain ⟨kq, hkq⟩ : ∃ k, Hid ((limbs q).length = k) := ⟨_, Lib.hid rfl⟩
  obtain ⟨k2, hk2⟩ : ∃ k, Hid ((limbs 2).length = k) := ⟨_, Lib.hid rfl⟩
  have b4 : kP ≤ 1000000000 := by rw [← hkP.out]; exact hM.len hM4
  have b5 : kA ≤ 1000000000 := by rw [← hkA.out]; exact hM.len (by omega)
  have b6 : kA2 ≤ 1000000000 := by rw [← hkA2.out]; exact hM.len (by omega)
  have b7 : k2 ≤ 1000000000 := by rw [← hk2.out]; exact hM.len (by omega)
  obtain ⟨r, hr⟩ : ∃ r, Hid (A3 % E2 = r) := ⟨_, Lib.hid rfl⟩
  obtain ⟨kr, hkr⟩ : ∃ k, Hid ((limbs r).length = k) := ⟨_, Lib.hid rfl⟩
  have hkq0 : kq = 0 ↔ q = 0 := by
    rw [← hkq.out]
    constructor
    · intro h
      have h2 := List.eq_nil_of_length_eq_zero h
      have := LV_limbs q
      rw [h2] at this
      exact this.symm
    · intro h; subst h; rw [limbs_zero]; rfl
  have hfin : Hid (∀ s : Bool, (q ≠ 0 → s = g1) → rat s q P = rndQ P x) := Lib.hid (fun s hs => by
    have := rndQ_rep (P := P) (s := s) hd0 hx (fun h => hs (by rw [← hrn.out]; exact h))
    rw [hrn.out] at this
    exact this)
  have hC2 : Hid (∀ (ψ : Phi) (W : World), Fz ψ W → Calls Tryz.prog 95 #[.int .u64 2] W (SlPost1 (limbs 2) ψ W)) := Lib.hid (fun ψ W hf => small_any 2 (by decide) W ψ hf)
  have hDv := Lib.hid (fun (a1 a2 : Option Addr) (c1 c2 : Nat) (ψ : Phi) (W : World) (hf : Fz ψ W) (s1 : SlV ψ a1 c1 (limbs A3)) (s2 : SlV ψ a2 c2 (limbs E2)) => hD.out A3 E2 _ _ a1 a2 c1 c2 W ψ hf s1 s2 hkA3 hkE hnM hE2M hE20)
  obtain ⟨φ1, hle1, hi1, hb1⟩ := (Inv.start hφ).frz (.cells #[.bool g1, .slice a1 p1 c1, .slice a2 p2 c2] 70)
  have hS0 : Hid (FpS 70 w φ φ1 φ1 (w.heap.size + 1) _) := Lib.hid ⟨by have := RsSt.start hi1 #[.bool false, .slice none 0 0, .slice none 0 0] 70; rw [alloc_sz] at this; exact this, φ1.le_refl⟩
  have S1 := Lib.hid (s1.mono hle1)
  have S2 := Lib.hid (s2.mono hle1)
  have HB1 := Lib.hid hb1
  clear s1 s2 hle1 hi1 hb1 hφ hx hv hq hqe hM1 hM2 hM3 hnN hdD hA3l hA2l
  go_enter Tryz.func46, Tryz.ntmps46
  go_upto_region 1 with fail
  generalize (w.alloc (Obj.cells #[Value.bool g1, Value.slice a1 p1 c1, Value.slice a2 p2 c2] 70)).alloc (Obj.cells #[Value.bool false, Value.slice none 0 0, Value.slice none 0 0] 70) = wx at *
  have hS1 : Hid (FpS 70 w φ φ1 φ1 (w.heap.size + 1) wx.drew) := Lib.hid (hS0.out.callB (bdrewN (Below.refl _ wx) 1))
  obtain ⟨bb, hbb⟩ : ∃ b, w.heap.size = b := ⟨_, rfl⟩
  have HBB := Lib.hid hbb
  rw [hbb] at HB1 hS0 hS1 ⊢
  clear hbb
  have hbox := Lib.hid (fun (φ3 : Phi) (W : World) (h : Hid (FpS 70 w φ φ1 φ3 (bb + 1) W)) => box3 HB1.out h.out.le h.out.fz)
  obtain ⟨x0, x1, x2⟩ := hbox.out _ _ hS1
  obtain ⟨z0, z1, z2⟩ := hbox.out _ _ hS0
  go_region_held3 (fun w' => w'.cell? ⟨bb, 0, none⟩ = some (.bool g1) ∧ w'.cell? ⟨bb, 1, none⟩ = some (.slice a1 p1 c1) ∧ w'.cell? ⟨bb, 2, none⟩ = some (.slice a2 p2 c2)) (first | done | with_reducible exact ⟨x0, x1, x2⟩ | with_reducible exact ⟨by assumption, by assumption, by assumption⟩ | fail) (first
    | ((with_reducible refine (plus_any (m := A2) (n := d) H4.out.fz SA2.out (S2.out.mono H4.out.le) hkA2 l2 (by omega) (by omega)).mono ?_); rintro e w5 ⟨a7, c7, φ5, rfl, hi5, hs5⟩; rw [hA3.out, hkA3.out]; rw [hA3.out] at hs5; have H5 := Lib.hid (H4.out.call hi5); have SA3 := Lib.hid hs5; obtain ⟨y0, y1, y2⟩ := hbox.out _ _ H5)
    | ((with_reducible refine (times_any (m := A) (n := 2) H3.out.fz (SA.out.mono LA.out) ST.out hkA hk2 (by omega) (by omega)).mono ?_); rintro e w4 ⟨a6, c6, φ4, rfl, hi4, hs4⟩; rw [hA2.out, hkA2.out]; rw [hA2.out] at hs4; have H4 := Lib.hid (H3.out.call hi4); have SA2 := Lib.hid hs4; obtain ⟨y0, y1, y2⟩ := hbox.out _ _ H4)
    | ((with_reducible refine (hC2.out _ _ H2.out.fz).mono ?_); rintro e w3 ⟨a5, c5, φ3, rfl, hi3, hs3⟩; rw [hk2.out]; have H3 := Lib.hid (H2.out.call hi3); have ST := Lib.hid hs3; have LA := Lib.hid hi3.le; obtain ⟨y0, y1, y2⟩ := hbox.out _ _ H3)
    | ((with_reducible refine (times_any (m := n) (n := P) H1.out.fz (S1.out.mono H1.out.le) SP.out l1 hkP (by omega) (by omega)).mono ?_); rintro e w2 ⟨a4, c4, φ2, rfl, hi2, hs2⟩; rw [hA.out, hkA.out]; rw [hA.out] at hs2; have H2 := Lib.hid (H1.out.call hi2); have SA := Lib.hid hs2; obtain ⟨y0, y1, y2⟩ := hbox.out _ _ H2)
    | ((with_reducible refine (power10_any hp hP hS1.out.fz).mono ?_); rintro e w1 ⟨a3, c3, φ0, rfl, hi1, hs1⟩; rw [hkP.out]; have H1 := Lib.hid (hS1.out.call hi1); have SP := Lib.hid hs1; obtain ⟨y0, y1, y2⟩ := hbox.out _ _ H1)
    | fail)
  have L5 := Lib.hid H5.out.le
  clear x0 x1 x2 z0 z1 z2 H1 H2 H3 H4 SP SA ST SA2 LA
  go_upto_region 2 with fail
  have hS2 : Hid (FpS 70 w φ φ1 φ5 (bb + 1) w5.drew) := Lib.hid (H5.out.callB (bdrewN (Below.refl _ w5) 1))
  obtain ⟨x0, x1, x2⟩ := hbox.out _ _ hS2
  obtain ⟨z0, z1, z2⟩ := hbox.out _ _ H5
  go_region_held3 (fun w' => w'.cell? ⟨bb, 0, none⟩ = some (.bool g1) ∧ w'.cell? ⟨bb, 1, none⟩ = some (.slice a1 p1 c1) ∧ w'.cell? ⟨bb, 2, none⟩ = some (.slice a2 p2 c2)) (first | done | with_reducible exact ⟨x0, x1, x2⟩ | with_reducible exact ⟨by assumption, by assumption, by assumption⟩ | fail) (first
    | ((with_reducible refine (hDv.out _ _ _ _ _ _ H8.out.fz (SA3.out.mono LC.out) SE.out).mono ?_); rintro e w9 ⟨a9, c9, a10, c10, φ9, rfl, hi9, hs9, hs10⟩; rw [hqq.out, hkq.out, hr.out, hkr.out]; rw [hqq.out] at hs9; have H9 := Lib.hid (H8.out.call hi9); have SQ := Lib.hid hs9; obtain ⟨y0, y1, y2⟩ := hbox.out _ _ H9)
    | ((with_reducible refine (times_any (m := d) (n := 2) H7.out.fz (S2.out.mono H7.out.le) ST.out l2 hk2 (by omega) (by omega)).mono ?_); rintro e w8 ⟨a8, c8, φ8, rfl, hi8, hs8⟩; rw [hE2.out, hkE.out]; rw [hE2.out] at hs8; have H8 := Lib.hid (H7.out.call hi8); have SE := Lib.hid hs8; have LC := Lib.hid (LB.out.trans hi8.le); obtain ⟨y0, y1, y2⟩ := hbox.out _ _ H8)
    | ((with_reducible refine (hC2.out _ _ hS2.out.fz).mono ?_); rintro e w7 ⟨a6', c6', φ7, rfl, hi7, hs7⟩; rw [hk2.out]; have H7 := Lib.hid (hS2.out.call hi7); have ST := Lib.hid hs7; have LB := Lib.hid hi7.le; obtain ⟨y0, y1, y2⟩ := hbox.out _ _ H7)
    | fail)
  obtain ⟨v0, v1, v2⟩ := hbox.out _ _ H9
  clear x0 x1 x2 z0 z1 z2
  have hgo : Hid (∀ W (φw : Phi), Fz φw W → Calls Tryz.prog 94 #[.int .i64 (p : Int)] W (NatPost P φw W)) := Lib.hid (fun W φw hf => power10_any hp hP hf)
  cases g1
  · have HF := Lib.hid (hfin.out false (fun _ => rfl))
    go_wp2_with (go_at_call 94; (with_reducible refine (hgo.out _ _ H9.out.fz).mono ?_); rintro e w11 ⟨a11, c11, φ11, rfl, hi11, hs11⟩; rw [hkP.out]; have H11 := Lib.hid (H9.out.call hi11); have SP := Lib.hid hs11; have L11 := Lib.hid hi11.le; obtain ⟨y0, y1, y2, y3, y4, y5⟩ := H11.out.rs.facts)
    have hIZ := Lib.hid (((H11.out.rs.inv.setCell H11.out.rs.l H11.out.rs.f (off := 0) (Value.bool false)).setCell H11.out.rs.l H11.out.rs.f (off := 1) (Value.slice a9 kq c9)).setCell H11.out.rs.l H11.out.rs.f (off := 2) (Value.slice a11 kP c11))
    have hBZ := Lib.hid (((H11.out.rs.k.set 0 (Value.bool false)).set 1 (Value.slice a9 kq c9)).set 2 (Value.slice a11 kP c11))
    have e0 : _ = some (Value.bool false) := hBZ.out.cell 0
    have e1 : _ = some (Value.slice a9 kq c9) := hBZ.out.cell 1
    have e2 : _ = some (Value.slice a11 kP c11) := hBZ.out.cell 2
    (try simp only [Exit.inBlock, Exit.then])
    refine bodyPost_ret (v := .agg #[(Value.bool false), (Value.slice a9 kq c9), (Value.slice a11 kP c11)]) (by simp [results, Tryz.results46, go_sem, e0, e1, e2]) rfl ?_
    exact ⟨_, φ11, rfl, hIZ.out, FfX.of (SQ.out.mono L11.out) SP.out hkq hkP hP0 hqN (Nat.le_refl _) HF.out⟩
  · by_cases hq0 : q = 0
    · obtain rfl : kq = 0 := hkq0.2 hq0
      have HF := Lib.hid (hfin.out false (fun h => absurd hq0 h))
      clear hkq0
      go_wp2_with (go_at_call 94; (with_reducible refine (hgo.out _ _ H9.out.fz).mono ?_); rintro e w11 ⟨a11, c11, φ11, rfl, hi11, hs11⟩; rw [hkP.out]; have H11 := Lib.hid (H9.out.call hi11); have SP := Lib.hid hs11; have L11 := Lib.hid hi11.le; obtain ⟨y0, y1, y2, y3, y4, y5⟩ := H11.out.rs.facts)
      have hIZ := Lib.hid (((H11.out.rs.inv.setCell H11.out.rs.l H11.out.rs.f (off := 0) (Value.bool false)).setCell H11.out.rs.l H11.out.rs.f (off := 1) (Value.slice a9 0 c9)).setCell H11.out.rs.l H11.out.rs.f (off := 2) (Value.slice a11 kP c11))
      have hBZ := Lib.hid (((H11.out.rs.k.set 0 (Value.bool false)).set 1 (Value.slice a9 0 c9)).set 2 (Value.slice a11 kP c11))
      have e0 : _ = some (Value.bool false) := hBZ.out.cell 0
      have e1 : _ = some (Value.slice a9 0 c9) := hBZ.out.cell 1
      have e2 : _ = some (Value.slice a11 kP c11) := hBZ.out.cell 2
      (try simp only [Exit.inBlock, Exit.then])
      refine bodyPost_ret (v := .agg #[(Value.bool false), (Value.slice a9 0 c9), (Value.slice a11 kP c11)]) (by simp [results, Tryz.results46, go_sem, e0, e1, e2]) rfl ?_
      exact ⟨_, φ11, rfl, hIZ.out, FfX.of (SQ.out.mono L11.out) SP.out hkq hkP hP0 hqN (Nat.le_refl _) HF.out⟩
    · have HF := Lib.hid (hfin.out true (fun _ => rfl))
      have hki : (0 : Int) < (kq : Int) := by have : kq ≠ 0 := fun h => hq0 (hkq0.1 h)
                                              omega
      have hkj : decide ((0 : Int) < (kq : Int)) = true := by simp; omega
      have hkn : 0 < kq := by omega
      have hkm : decide (0 < kq) = true := decide_eq_true hkn
      clear hkq0
      go_wp2_with (go_at_call 94; (with_reducible refine (hgo.out _ _ H9.out.fz).mono ?_); rintro e w11 ⟨a11, c11, φ11, rfl, hi11, hs11⟩; rw [hkP.out]; have H11 := Lib.hid (H9.out.call hi11); have SP := Lib.hid hs11; have L11 := Lib.hid hi11.le; obtain ⟨y0, y1, y2, y3, y4, y5⟩ := H11.out.rs.facts)
      have hIZ := Lib.hid (((H11.out.rs.inv.setCell H11.out.rs.l H11.out.rs.f (off := 0) (Value.bool true)).setCell H11.out.rs.l H11.out.rs.f (off := 1) (Value.slice a9 kq c9)).setCell H11.out.rs.l H11.out.rs.f (off := 2) (Value.slice a11 kP c11))
      have hBZ := Lib.hid (((H11.out.rs.k.set 0 (Value.bool true)).set 1 (Value.slice a9 kq c9)).set 2 (Value.slice a11 kP c11))
      have e0 : _ = some (Value.bool true) := hBZ.out.cell 0
      have e1 : _ = some (Value.slice a9 kq c9) := hBZ.out.cell 1
      have e2 : _ = some (Value.slice a11 kP c11) := hBZ.out.cell 2
      (try simp only [Exit.inBlock, Exit.then])
      refine bodyPost_ret (v := .agg #[(Value.bool true), (Value.slice a9 kq c9), (Value.slice a11 kP c11)]) (by simp [results, Tryz.results46, go_sem, e0, e1, e2]) rfl ?_
      exact ⟨_, φ11, rfl, hIZ.out, FfX.of (SQ.out.mono L11.out) SP.out hkq hkP hP0 hqN (Nat.le_refl _) HF.out⟩
end Go.Proofs.YtmlpjffnmkndoaaGreatDoor
