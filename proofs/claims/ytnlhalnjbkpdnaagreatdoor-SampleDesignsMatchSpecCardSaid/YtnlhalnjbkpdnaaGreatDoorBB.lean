/- The reference's exact numbers as rationals; the walk of reduced. The reference's exact numbers: the walks of Part, Whole, Zero and Over. The reference's exact numbers: the walk of Over. The reference's natural numbers: the walk of text. Conditions: the library's table of powers of ten reads as it was laid. The reference's exact numbers: the walk of Ratio. Conditions: the library's table of powers of ten reads as it was laid. The reference's natural numbers: the walk of minus. The reference's exact numbers: the walk of Plus. Conditions: none beyond what the claim form gives. -/
import Derived.Test.YtnlhalnjbkpdnaaGreatDoorBA
import Derived.Deep.RegionHeld3
import Derived.Test.YtnlhalnjbkpdnaaGreatDoorAB
import Derived.Test.YtnlhalnjbkpdnaaGreatDoorBL
import Derived.Test.YtnlhalnjbkpdnaaGreatDoorPB
import Derived.Test.YtnlhalnjbkpdnaaGreatDoorLB
namespace Go.Proofs.YtnlhalnjbkpdnaaGreatDoor
open Go.RowKit
set_option linter.unusedVariables false
set_option linter.unusedSimpArgs false
/-- A value that reads as an exact number of the reference's; its numerator and denominator are at most N and D. -/
def FrX (φ : Phi) (v : Value) (x : Rat) (N D : Nat) : Prop := ∃ (neg : Bool) (n d : Nat) (a1 : Option Addr) (c1 : Nat) (a2 : Option Addr) (c2 : Nat),
  v = .agg #[.bool neg, .slice a1 (limbs n).length c1, .slice a2 (limbs d).length c2] ∧ SlV φ a1 c1 (limbs n) ∧ SlV φ a2 c2 (limbs d) ∧ 0 < d ∧ n ≤ N ∧ d ≤ D ∧ rat neg n d = x
theorem FrX.mono {φ φ' : Phi} {v : Value} {x : Rat} {N D : Nat} (h : FrX φ v x N D) (hl : φ.le φ') : FrX φ' v x N D := by
  obtain ⟨neg, n, d, a1, c1, a2, c2, rfl, s1, s2, r⟩ := h
  exact ⟨neg, n, d, a1, c1, a2, c2, rfl, s1.mono hl, s2.mono hl, r⟩
def FrXP (x : Rat) (N D : Nat) (φ : Phi) (w : World) (e : Ending) (w' : World) : Prop :=
  ∃ v φ', e = .returned v ∧ Inv w.heap.size w φ φ' w' ∧ FrX φ' v x N D
/-- A value with its parts laid open. -/
theorem FrX.open {φ : Phi} {v : Value} {x : Rat} {N D : Nat} (h : FrX φ v x N D) : ∃ (neg : Bool) (n d k1 k2 : Nat) (a1 : Option Addr) (c1 : Nat) (a2 : Option Addr) (c2 : Nat),
    v = .agg #[.bool neg, .slice a1 k1 c1, .slice a2 k2 c2] ∧ SlV φ a1 c1 (limbs n) ∧ SlV φ a2 c2 (limbs d) ∧ Hid ((limbs n).length = k1) ∧ Hid ((limbs d).length = k2) ∧ 0 < d ∧ n ≤ N ∧ d ≤ D ∧ rat neg n d = x := by
  obtain ⟨neg, n, d, a1, c1, a2, c2, rfl, s1, s2, h⟩ := h
  exact ⟨neg, n, d, _, _, a1, c1, a2, c2, rfl, s1, s2, Lib.hid rfl, Lib.hid rfl, h⟩
/-- What bounds a number has behind 'reduced'. -/
def CapOk (x : Rat) (n0 d0 N D : Nat) : Prop := ∀ (neg : Bool) (n d : Nat), 0 < d → rat neg n d = x → n ≤ n0 → d ≤ d0 → (n / Nat.gcd n d ≤ N ∧ d / Nat.gcd n d ≤ D) ∧ ((limbs n).length + (limbs d).length < 12 → n ≤ N ∧ d ≤ D)
theorem capOk_le {x : Rat} {n0 d0 N D : Nat} (hN : n0 ≤ N) (hD : d0 ≤ D) : CapOk x n0 d0 N D := fun neg n d _ _ h1 h2 =>
  ⟨⟨Nat.le_trans (Nat.div_le_self _ _) (Nat.le_trans h1 hN), Nat.le_trans (Nat.div_le_self _ _) (Nat.le_trans h2 hD)⟩, fun _ => ⟨Nat.le_trans h1 hN, Nat.le_trans h2 hD⟩⟩
set_option maxRecDepth 100000 in
set_option maxHeartbeats 2000000 in
theorem Rreduced_cap {M : Nat} (hD : Hid (RdivOk M)) {neg : Bool} {n d k1 k2 : Nat} {a1 a2 : Option Addr} {c1 c2 : Nat} {w : World} {φ : Phi} (hφ : Fz φ w) (s1 : SlV φ a1 c1 (limbs n)) (s2 : SlV φ a2 c2 (limbs d)) (h1 : Hid ((limbs n).length = k1)) (h2 : Hid ((limbs d).length = k2)) (hn : n ≤ M) (hd : d ≤ M) (hd0 : 0 < d) (hM : LenB M) {x : Rat} (hx : Hid (rat neg n d = x)) {n0 d0 N D : Nat} (hCp : Hid (CapOk x n0 d0 N D)) (hN : n ≤ n0) (hND : d ≤ d0) :
    Calls Tryz.prog 69 #[.agg #[.bool neg, .slice a1 k1 c1, .slice a2 k2 c2]] w (FrXP x N D φ w) := by
  obtain ⟨φ1, hle1, hi1, hb1⟩ := (Inv.start hφ).frz (.cells #[.bool neg, .slice a1 k1 c1, .slice a2 k2 c2] 55)
  have hRS := Lib.hid (RsSt.start hi1 #[.bool false, .slice none 0 0, .slice none 0 0] 55)
  rw [alloc_sz] at hRS
  have hk1 : k1 ≤ 1000000000 := by rw [← h1.out]; exact hM.len hn
  have hk2 : k2 ≤ 1000000000 := by rw [← h2.out]; exact hM.len hd
  have S1 := Lib.hid (s1.mono hle1)
  have S2 := Lib.hid (s2.mono hle1)
  have HB := Lib.hid hb1
  have hg0 : 0 < Nat.gcd n d := gcd_dle hd0
  obtain ⟨g, hg⟩ : ∃ g, Hid (Nat.gcd n d = g) := ⟨_, Lib.hid rfl⟩
  rw [hg.out] at hg0
  obtain ⟨ng, hng⟩ : ∃ b, Hid ((neg && decide (n / g ≠ 0)) = b) := ⟨_, Lib.hid rfl⟩
  obtain ⟨q1, hq1⟩ : ∃ k, Hid ((limbs (n / g)).length = k) := ⟨_, Lib.hid rfl⟩
  obtain ⟨q2, hq2⟩ : ∃ k, Hid ((limbs (d / g)).length = k) := ⟨_, Lib.hid rfl⟩
  have hfin : Hid (0 < d / g ∧ n / g ≤ N ∧ d / g ≤ D ∧ rat ng (n / g) (d / g) = x) := Lib.hid (by
    have hgd : g ∣ d := by rw [← hg.out]; exact Nat.gcd_dvd_right n d
    have hcp := (hCp.out neg n d hd0 hx.out hN hND).1
    rw [hg.out] at hcp
    refine ⟨Nat.div_pos (Nat.le_of_dvd hd0 hgd) hg0, hcp.1, hcp.2, ?_⟩
    rw [← hng.out, rat_lowest hg0 (by rw [← hg.out]; exact Nat.gcd_dvd_left n d) hgd, hx.out])
  have hC := Lib.hid (fun W (hf : Fz φ1 W) => (Rlowest_any (neg := neg) hD hf S1.out S2.out h1 h2 hn hd hd0 hM))
  rw [hg.out, hng.out] at hC
  have hI1 := Lib.hid hi1
  clear s1 s2 hφ hb1 hi1
  have z := hRS.out.facts
  obtain ⟨z0, z1, z2, u2, u3, u4⟩ := z
  go_enter Tryz.func69, Tryz.ntmps69
  by_cases h12 : k1 + k2 < 12
  · have h12i : (k1 : Int) + (k2 : Int) < 12 := by omega
    have HC2 := Lib.hid ((hCp.out neg n d hd0 hx.out hN hND).2 (by rw [h1.out, h2.out]; exact h12))
    clear hC
    go_wp2
    have hIZ := Lib.hid (((hRS.out.inv.setCell hRS.out.l hRS.out.f (off := 0) (Value.bool neg)).setCell hRS.out.l hRS.out.f (off := 1) (Value.slice a1 k1 c1)).setCell hRS.out.l hRS.out.f (off := 2) (Value.slice a2 k2 c2))
    have hBZ := Lib.hid (((hRS.out.k.set 0 (Value.bool neg)).set 1 (Value.slice a1 k1 c1)).set 2 (Value.slice a2 k2 c2))
    have e0 : _ = some (Value.bool neg) := hBZ.out.cell 0
    have e1 : _ = some (Value.slice a1 k1 c1) := hBZ.out.cell 1
    have e2 : _ = some (Value.slice a2 k2 c2) := hBZ.out.cell 2
    (try simp only [Exit.inBlock, Exit.then])
    refine bodyPost_ret (v := .agg #[(Value.bool neg), (Value.slice a1 k1 c1), (Value.slice a2 k2 c2)]) (by simp [results, Tryz.results69, go_sem, e0, e1, e2]) rfl ?_
    exact ⟨_, φ1, rfl, hI1.out.alloc _, neg, n, d, a1, c1, a2, c2, by rw [h1.out, h2.out], S1.out, S2.out, hd0, HC2.out.1, HC2.out.2, hx.out⟩
  · have h12i : ¬ (k1 : Int) + (k2 : Int) < 12 := by omega
    go_wp2_with (go_at_call 94; refine (hC.out _ hRS.out.inv.fz).mono ?_; rintro e w2 ⟨a3, c3, a4, c4, φ2, rfl, hi2, hs3, hs4⟩; rw [hq1.out, hq2.out]; have H2 := Lib.hid (hRS.out.call hi2); obtain ⟨y0, y1, y2, y3, y4, y5⟩ := H2.out.facts)
    have hIZ := Lib.hid (((H2.out.inv.setCell H2.out.l H2.out.f (off := 0) (Value.bool ng)).setCell H2.out.l H2.out.f (off := 1) (Value.slice a3 q1 c3)).setCell H2.out.l H2.out.f (off := 2) (Value.slice a4 q2 c4))
    have hBZ := Lib.hid (((H2.out.k.set 0 (Value.bool ng)).set 1 (Value.slice a3 q1 c3)).set 2 (Value.slice a4 q2 c4))
    have e0 : _ = some (Value.bool ng) := hBZ.out.cell 0
    have e1 : _ = some (Value.slice a3 q1 c3) := hBZ.out.cell 1
    have e2 : _ = some (Value.slice a4 q2 c4) := hBZ.out.cell 2
    (try simp only [Exit.inBlock, Exit.then])
    refine bodyPost_ret (v := .agg #[(Value.bool ng), (Value.slice a3 q1 c3), (Value.slice a4 q2 c4)]) (by simp [results, Tryz.results69, go_sem, e0, e1, e2]) rfl ?_
    exact ⟨_, φ2, rfl, hIZ.out, ng, n / g, d / g, a3, c3, a4, c4, by rw [hq1.out, hq2.out], hs3, hs4, hfin.out⟩
theorem Rreduced_any {M : Nat} (hD : Hid (RdivOk M)) {neg : Bool} {n d k1 k2 : Nat} {a1 a2 : Option Addr} {c1 c2 : Nat} {w : World} {φ : Phi} (hφ : Fz φ w) (s1 : SlV φ a1 c1 (limbs n)) (s2 : SlV φ a2 c2 (limbs d)) (h1 : Hid ((limbs n).length = k1)) (h2 : Hid ((limbs d).length = k2)) (hn : n ≤ M) (hd : d ≤ M) (hd0 : 0 < d) (hM : LenB M) {x : Rat} (hx : Hid (rat neg n d = x)) {N D : Nat} (hN : n ≤ N) (hND : d ≤ D) :
    Calls Tryz.prog 69 #[.agg #[.bool neg, .slice a1 k1 c1, .slice a2 k2 c2]] w (FrXP x N D φ w) := Rreduced_cap hD hφ s1 s2 h1 h2 hn hd hd0 hM hx (Lib.hid (capOk_le hN hND)) (Nat.le_refl _) (Nat.le_refl _)
end Go.Proofs.YtnlhalnjbkpdnaaGreatDoor

namespace Go.Proofs.YtnlhalnjbkpdnaaGreatDoor
open Go.RowKit
set_option linter.unusedVariables false
set_option linter.unusedSimpArgs false
section
variable {w0 W w' : World} {φ0 φ1 φ φ' : Phi} {b : Nat}
end
set_option maxHeartbeats 1000000 in
theorem RPart_any {a b : Nat} (ha : a < 9223372036854775808) (hb : b < 9223372036854775808) (hb0 : 0 < b) {w : World} {φ : Phi} (hφ : Fz φ w) :
    Calls Tryz.prog 92 #[.int .i64 (a : Int), .int .i64 (b : Int)] w (FrXP (mkRat a b) a b φ w) := by
  have hRS := Lib.hid (RsSt.start (Inv.start hφ) #[.bool false, .slice none 0 0, .slice none 0 0] 55)
  obtain ⟨q1, hq1⟩ : ∃ k, Hid ((limbs a).length = k) := ⟨_, Lib.hid rfl⟩
  obtain ⟨q2, hq2⟩ : ∃ k, Hid ((limbs b).length = k) := ⟨_, Lib.hid rfl⟩
  clear hφ
  go_enter Tryz.func92, Tryz.ntmps92
  go_wp2_with (first
    | (go_at_call 65; refine (Rsmall_any b hb _ φ2 H2.out.inv.fz).mono ?_; rintro e w3 ⟨a4, c4, φ3, rfl, hi3, hs3⟩; rw [hq2.out]; have H3 := Lib.hid (H2.out.call hi3); have SB := Lib.hid hs3; have SA3 := Lib.hid (SA.out.mono hi3.le); obtain ⟨y0, y1, y2, y3, y4, y5⟩ := H3.out.facts)
    | (go_at_call 65; refine (Rsmall_any a ha _ φ hRS.out.inv.fz).mono ?_; rintro e w2 ⟨a3, c3, φ2, rfl, hi2, hs2⟩; rw [hq1.out]; have H2 := Lib.hid (hRS.out.call hi2); have SA := Lib.hid hs2))
  have hIZ := Lib.hid (((H3.out.inv.setCell H3.out.l H3.out.f (off := 0) (Value.bool false)).setCell H3.out.l H3.out.f (off := 1) (Value.slice a3 q1 c3)).setCell H3.out.l H3.out.f (off := 2) (Value.slice a4 q2 c4))
  have hBZ := Lib.hid (((H3.out.k.set 0 (Value.bool false)).set 1 (Value.slice a3 q1 c3)).set 2 (Value.slice a4 q2 c4))
  have e0 : _ = some (Value.bool false) := hBZ.out.cell 0
  have e1 : _ = some (Value.slice a3 q1 c3) := hBZ.out.cell 1
  have e2 : _ = some (Value.slice a4 q2 c4) := hBZ.out.cell 2
  (try simp only [Exit.inBlock, Exit.then])
  refine bodyPost_ret (v := .agg #[(Value.bool false), (Value.slice a3 q1 c3), (Value.slice a4 q2 c4)]) (by simp [results, Tryz.results92, go_sem, e0, e1, e2]) rfl ?_
  exact ⟨_, φ3, rfl, hIZ.out, false, a, b, a3, c3, a4, c4, by rw [hq1.out, hq2.out], SA3.out, SB.out, hb0, Nat.le_refl _, Nat.le_refl _, rfl⟩
end Go.Proofs.YtnlhalnjbkpdnaaGreatDoor

namespace Go.Proofs.YtnlhalnjbkpdnaaGreatDoor
open Go.RowKit
set_option linter.unusedVariables false
set_option linter.unusedSimpArgs false
end Go.Proofs.YtnlhalnjbkpdnaaGreatDoor

namespace Go.Proofs.YtnlhalnjbkpdnaaGreatDoor
open Go.RowKit
set_option linter.unusedVariables false
set_option linter.unusedSimpArgs false
theorem repeat48 : ∀ k, Lib.repeatL [48] k = List.replicate k 48
  | 0 => rfl
  | k + 1 => by rw [Lib.repeatL, repeat48 k, List.replicate_succ]; rfl
theorem Repeat0_any {k : Nat} {L : Int} (hL : L = k) (hk : k ≤ 1000) (w : World) :
    Calls Tryz.prog 140 #[.string ⟨#[48]⟩, .int .i64 L] w (fun e w' => e = .returned (.string (bl (List.replicate k 48))) ∧ Below w.heap.size w w') := by
  subst hL
  refine (Any.strings_Repeat Tryz.lays105 Tryz.Builder_Extra_105 ⟨#[48]⟩ k w (by omega) (by show 1 * k ≤ _; omega)).mono ?_
  rintro e w' ⟨rfl, hb⟩
  exact ⟨by rw [show (⟨#[48]⟩ : ByteArray).data.toList = [48] from rfl, repeat48]; rfl, hb⟩
/-- The limbs from k on, as a text. -/
theorem text_next {X : List Nat} {k n : Nat} (hn : X.length = n) (hl : Lim X) (hk : k + 1 < n) (hp : 0 < LV (X.drop (k + 1))) :
    decB (LV (X.drop k)) = decB (LV (X.drop (k + 1))) ++ (bl (List.replicate (9 - (Lib.decDigits (X.getD k 0)).length) 48) ++ bl (Lib.decDigits (X.getD k 0))) := by
  have hx : X.getD k 0 < lb := hl.getD k
  rw [LV_drop X k (by omega), decB_bl, decB_bl, dec_lb hp hx, bl_app, bl_app, pad_eq 8 _ (by rw [show (8 + 1) = 9 from rfl, ← lb_ten]; exact hx)]
theorem top_drop {m k : Nat} (hk : (limbs m).length = k + 1) : LV ((limbs m).drop k) = (limbs m).getD k 0 ∧ 0 < (limbs m).getD k 0 := by
  have hne : limbs m ≠ [] := by intro e; rw [e] at hk; simp at hk
  refine ⟨?_, ?_⟩
  · rw [LV_drop _ _ (by omega), LV_drop_ge _ _ (by omega)]; omega
  · have h1 := limbs_top hne
    have h2 := getD_last hne
    rw [hk, Nat.add_sub_cancel] at h2
    rw [h2]; omega
theorem drop_pos {X : List Nat} {k : Nat} : ∀ j, j ≤ k → 0 < LV (X.drop k) → k ≤ X.length → 0 < LV (X.drop j)
  | j, hj, hp, hk => by
    rw [LV_take_drop (X.drop j) (k - j) (by rw [List.length_drop]; omega), List.drop_drop, show j + (k - j) = k by omega]
    have : 0 < lb ^ (k - j) := Nat.pow_pos lb_pos
    have := Nat.mul_pos this hp
    omega
set_option maxRecDepth 100000 in
set_option maxHeartbeats 1000000 in
theorem Rtext_any {m k : Nat} {a : Option Addr} {c : Nat} {w : World} {φ : Phi} (hφ : Fz φ w) (hp : PowP φ) (s : SlV φ a c (limbs m)) (hk : Hid ((limbs m).length = k)) (hk9 : k ≤ 1000000000) {t : ByteArray} (ht : Hid (decB m = t)) :
    Calls Tryz.prog 77 #[.slice a k c] w (fun e w' => e = .returned (.string t) ∧ Below w.heap.size w w') := by
  go_enter Tryz.func77, Tryz.ntmps77
  by_cases h0 : k = 0
  · subst h0
    have hm : m = 0 := limbs_len0.1 hk.out
    subst hm
    go_wp2
    go_ret
    exact ⟨by rw [← ht.out, decB, dec_lt (by omega)]; rfl, Below.refl _ _⟩
  · have hk0 : ((k : Int) == 0) = false := by simp [h0]
    obtain ⟨k, rfl⟩ : ∃ j, k = j + 1 := ⟨k - 1, by omega⟩
    have hLm : Hid (Lim (limbs m)) := Lib.hid (limbs_lim m)
    have htop := Lib.hid (top_drop hk.out)
    have hS0 : Hid (TxSt w φ w.heap.size ⟨#[]⟩ (w.alloc (.cells #[.pointer none, .slice none 0 0] 163))) := Lib.hid (TxSt.start (Inv.start hφ))
    have hfin : Hid (decB (LV (limbs m)) = t) := Lib.hid (by rw [LV_limbs]; exact ht.out)
    have HP := Lib.hid hp
    generalize limbs m = X at *
    obtain ⟨bb, hbb⟩ : ∃ b, Hid (w.heap.size = b) := ⟨_, Lib.hid rfl⟩
    rw [hbb.out] at hS0
    obtain ⟨b, off, rfl, f⟩ := s.natI hk (k := k) (by omega)
    obtain ⟨_, d1⟩ := f k (by omega) _ (hφ.alloc (.cells #[.pointer none, .slice none 0 0] 163))
    have HF := Lib.hid f
    obtain ⟨x, hx⟩ : ∃ x, Hid (X.getD k 0 = x) := ⟨_, Lib.hid rfl⟩
    have hxl : x < 1000000000 := by rw [← hx.out]; exact hLm.out.getD _
    rw [hx.out] at d1
    have hbd : ((k + 1 : Nat) : Int) - 1 < ((k + 1 : Nat) : Int) := by omega
    have hb0 : (0 : Int) ≤ ((k + 1 : Nat) : Int) - 1 := by omega
    have hto : (((k + 1 : Nat) : Int) - 1).toNat = k := by omega
    have htx : Hid (itoaB (x : Int) = decB (LV (X.drop k))) := Lib.hid (by rw [itoa_nat, htop.out.1, hx.out]; rfl)
    have hxs : (itoaB (x : Int)).size ≤ 9 := by rw [itoa_nat, bl_size]; exact dec_lim hxl
    obtain ⟨u0, hu0⟩ : ∃ u, Hid (itoaB (x : Int) = u) := ⟨_, Lib.hid rfl⟩
    rw [hu0.out] at htx hxs
    have hpos : Hid (0 < LV (X.drop k)) := Lib.hid (by rw [htop.out.1]; exact htop.out.2)
    clear h0 hφ hp f
    go_wp2_with (first
      | (go_at_call 112; refine (Itoa_any (x : Int) (by omega) (by omega) _ φ hS0.out.inv.fz HP.out).mono ?_; rintro e w1 ⟨rfl, hb1⟩; rw [hu0.out]; have HS1 := Lib.hid (hS0.out.callB hb1); clear hb1)
      | (go_at_call 119; rw [hbb.out]; refine (WriteString_any HS1.out (by show 0 + _ ≤ _; omega)).mono ?_; rintro e w2 ⟨rfl, hT2, _⟩; have HT2 := Lib.hid hT2; clear hT2))
    have hS2 : Hid (TxSt w φ bb u0 w2) := Lib.hid (by have := HT2.out; rwa [show (⟨#[]⟩ : ByteArray) ++ u0 = u0 from ByteArray.empty_append] at this)
    go_loopw [4, 5] (fun v sv wr => ∃ (j : Nat) (u : ByteArray), j ≤ k ∧ v = .int .i64 ((j : Int) - 1) ∧ u.size ≤ 9 * (k + 1 - j) ∧ Hid (decB (LV (X.drop j)) = u) ∧ Hid (TxSt w φ bb u wr)) (fun v _ _ => (intOf v + 1).toNat)
    case atStart => exact ⟨k, u0, Nat.le_refl _, by congr 1; omega, by omega, Lib.hid (by rw [← htx.out]), hS2⟩
    case round =>
      clear hS0 HS1 HT2 hS2
      obtain ⟨j, u, hj, rfl, hul, hu, hS⟩ := hrel
      by_cases hj0 : j = 0
      · subst hj0
        have hneg : ¬ (0 : Int) ≤ ((0 : Nat) : Int) - 1 := by omega
        go_wp2_with (go_at_call 121; refine (String_any hS.out).mono ?_; rintro e w2 ⟨rfl, hT⟩; have HT := Lib.hid hT; clear hT)
        go_ret
        exact ⟨by rw [← hfin.out, ← hu.out]; rfl, HT.out.inv.bel⟩
      · obtain ⟨_, d1⟩ := HF.out (j - 1) (by omega) wr hS.out.inv.fz
        obtain ⟨x, hx⟩ : ∃ x, Hid (X.getD (j - 1) 0 = x) := ⟨_, Lib.hid rfl⟩
        have hxl : x < 1000000000 := by rw [← hx.out]; exact hLm.out.getD _
        rw [hx.out] at d1
        obtain ⟨ds, hds⟩ : ∃ v, Hid (Lib.decDigits x = v) := ⟨_, Lib.hid rfl⟩
        have hd9 := dec_lim hxl
        have hd1 := dec_pos x
        have hit : Hid (itoaB (x : Int) = bl ds) := Lib.hid (by rw [itoa_nat, hds.out])
        rw [hds.out] at hd9 hd1
        obtain ⟨v, hv⟩ : ∃ v, Hid (bl ds = v) := ⟨_, Lib.hid rfl⟩
        have hvl : v.size = ds.length := by rw [← hv.out, bl_size]
        obtain ⟨z, hz⟩ : ∃ z, Hid (bl (List.replicate (9 - ds.length) 48) = z) := ⟨_, Lib.hid rfl⟩
        have hzl : z.size = 9 - ds.length := by rw [← hz.out, bl_size, List.length_replicate]
        have hnx : Hid (decB (LV (X.drop (j - 1))) = (u ++ z) ++ v) := Lib.hid (by
          rw [text_next hk.out hLm.out (k := j - 1) (by omega) (by rw [show j - 1 + 1 = j by omega]; exact drop_pos j hj hpos.out (by rw [hk.out]; omega)), show j - 1 + 1 = j by omega, hu.out, hx.out, hds.out, hz.out, hv.out, ByteArray.append_assoc])
        have hpos : (0 : Int) ≤ (j : Int) - 1 := by omega
        have hbd : (j : Int) - 1 < ((k + 1 : Nat) : Int) := by omega
        have hto : ((j : Int) - 1).toNat = j - 1 := by omega
        have h9 : Hid ((9 : Int) - (ds.length : Int) = ((9 - ds.length : Nat) : Int)) := Lib.hid (by omega)
        have hv9 : (v.size : Int) ≤ 9 := by omega
        have hw9 : (0 : Int) ≤ 9 - (v.size : Int) := by omega
        have huz : (u ++ z).size = u.size + z.size := ByteArray.size_append
        go_wp2_with (first
          | (go_at_call 112; refine (Itoa_any (x : Int) (by omega) (by omega) _ φ hS.out.inv.fz HP.out).mono ?_; rintro e w1 ⟨rfl, hb1⟩; rw [hit.out, hv.out]; have HS1 := Lib.hid (hS.out.callB hb1); clear hb1)
          | (go_at_call 140; (with_reducible refine (Repeat0_any h9.out (by omega) _).mono ?_); rintro e w2 ⟨rfl, hb2⟩; rw [hz.out]; have HS2 := Lib.hid (HS1.out.callB hb2); clear hb2)
          | (go_at_call 119; (with_reducible refine (WriteString_any (s := v) HS3.out (by omega)).mono ?_); rintro e w4 ⟨rfl, hT4, _⟩; have HS4 := Lib.hid hT4; clear hT4)
          | (go_at_call 119; (with_reducible refine (WriteString_any (s := z) HS2.out (by omega)).mono ?_); rintro e w3 ⟨rfl, hT3, _⟩; have HS3 := Lib.hid hT3; clear hT3))
        go_roundw
        case rel => exact ⟨j - 1, (u ++ z) ++ v, by omega, by go_num, by rw [ByteArray.size_append]; omega, hnx, HS4⟩
        case measure => simp [intOf]; omega
end Go.Proofs.YtnlhalnjbkpdnaaGreatDoor

namespace Go.Proofs.YtnlhalnjbkpdnaaGreatDoor
open Go.RowKit
set_option linter.unusedVariables false
set_option linter.unusedSimpArgs false
/-- A region whose ways end in one state, but for one address. -/
theorem wp_region_cut1 {P : Program} {id : Nat} {ops : Array Oper} {b : Bool} {Q : Exit → Act → World → Prop} {a : Act} {w : World} (fr : Nat → Act) (S : Nat → World → Prop) (h1 : (Code.region id ops b).wp P (OnlyN fun a' w' => ∃ x, a' = fr x ∧ S x w') a w) (h2 : ∀ x w, S x w → Q .normal (fr x) w) : (Code.region id ops b).wp P Q a w :=
  Code.wp_mono (fun e a w h => by
    cases e <;> first | exact h.elim | (obtain ⟨x, rfl, hs⟩ := (h : ∃ x, a = fr x ∧ S x w); exact h2 x w hs)) h1
/-- A box, a result's cell, and perhaps a new cell. -/
structure RtS (w0 : World) (φ0 φ : Phi) (b : Nat) (cs : Array Value) (T : TypeId) (g : Nat) (ds : Array Value) (E : TypeId) (o : Option Nat) (W : World) : Prop where
  f : Fr2 w0 φ0 φ b cs T g ds E W
  o : ∀ x, o = some x → RsSt w0 φ0 φ x #[.string ⟨#[]⟩, .string ⟨#[]⟩] 33 W ∧ x ≠ b ∧ x ≠ g
section
variable {w0 W w' : World} {φ0 φ : Phi} {b g x : Nat} {cs ds : Array Value} {T E : TypeId} {o : Option Nat}
theorem RtS.callB (h : RtS w0 φ0 φ b cs T g ds E o W) (hb : Below W.heap.size W w') : RtS w0 φ0 φ b cs T g ds E o w' := ⟨h.f.callB hb, fun x hx => ⟨(h.o x hx).1.callB hb, (h.o x hx).2⟩⟩
theorem RtS.al (h : Hid (RtS w0 φ0 φ b cs T g ds E none W)) : Hid (RtS w0 φ0 φ b cs T g ds E (some W.heap.size) (W.alloc (.cells #[.string ⟨#[]⟩, .string ⟨#[]⟩] 33))) := by
  refine Lib.hid ⟨h.out.f.callB ((Below.refl _ _).alloc (Nat.le_refl _) _), fun x hx => ?_⟩
  cases hx
  exact ⟨RsSt.start h.out.f.x.inv _ _, by have := h.out.f.x.k.lt; omega, by have := h.out.f.r.k.lt; omega⟩
theorem RtS.alD (h : Hid (RtS w0 φ0 φ b cs T g ds E none W)) : Hid (RtS w0 φ0 φ b cs T g ds E (some W.heap.size) (W.alloc (.cells #[.string ⟨#[]⟩, .string ⟨#[]⟩] 33)).drew) := Lib.hid ((RtS.al h).out.callB (bdrewN (Below.refl _ _) 1))
theorem RtS.facts (h : Hid (RtS w0 φ0 φ b cs T g ds E (some x) W)) : W.cell? ⟨x, 0, none⟩ = some (.string ⟨#[]⟩) ∧ W.cell? ⟨x, 1, none⟩ = some (.string ⟨#[]⟩) ∧ W.frozen? ⟨x, 0, none⟩ = false ∧ W.frozen? ⟨x, 1, none⟩ = false ∧ x ≠ b :=
  have k := (h.out.o x rfl).1.k
  ⟨k.cell 0, k.cell 1, k.frz 0, k.frz 1, (h.out.o x rfl).2.1⟩
/-- Both texts stand in the new cell. -/
theorem RtS.put {s t : ByteArray} (h : Hid (RtS w0 φ0 φ b cs T g ds E (some x) W)) : Hid (Fr2 w0 φ0 φ b cs T g ds E ((W.setCell ⟨x, 0, none⟩ (.string s)).setCell ⟨x, 1, none⟩ (.string t)) ∧ RsSt w0 φ0 φ x #[.string s, .string t] 33 ((W.setCell ⟨x, 0, none⟩ (.string s)).setCell ⟨x, 1, none⟩ (.string t)) ∧ x ≠ b ∧ x ≠ g) := by
  obtain ⟨k, n1, n2⟩ := h.out.o x rfl
  have k1 := k.set 0 (.string s)
  have k2 := k1.set 1 (.string t)
  exact Lib.hid ⟨⟨(h.out.f.x.oth k n1 0 _).oth k1 n1 1 _, (h.out.f.r.oth k n2 0 _).oth k1 n2 1 _⟩, k2, n1, n2⟩
/-- The same, where the cell is made last. -/
theorem RtS.putNew {s t : ByteArray} (h : Hid (RtS w0 φ0 φ b cs T g ds E none W)) : Hid (Fr2 w0 φ0 φ b cs T g ds E (W.alloc (.cells #[.string s, .string t] 33)) ∧ RsSt w0 φ0 φ W.heap.size #[.string s, .string t] 33 (W.alloc (.cells #[.string s, .string t] 33)) ∧ W.heap.size ≠ b ∧ W.heap.size ≠ g) :=
  Lib.hid ⟨h.out.f.callB ((Below.refl _ _).alloc (Nat.le_refl _) _), RsSt.start h.out.f.x.inv _ _, by have := h.out.f.x.k.lt; omega, by have := h.out.f.r.k.lt; omega⟩
theorem keepA {w : World} {a : Addr} {v : Value} {o : Obj} (h : w.cell? a = some v) : (w.alloc o).cell? a = some v := by
  rw [World.cell?_alloc_lt]
  · exact h
  · exact block_lt_of_cell h
theorem Rtext_S {m k : Nat} {a : Option Addr} {c : Nat} (hp : Hid (PowP φ)) (s : Hid (SlV φ a c (limbs m))) (hk : Hid ((limbs m).length = k)) (hk9 : k ≤ 1000000000) {t : ByteArray} (ht : Hid (decB m = t)) (h : Hid (RtS w0 φ0 φ b cs T g ds E o W)) :
    Calls Tryz.prog 77 #[.slice a k c] W (fun e w' => e = .returned (.string t) ∧ Hid (RtS w0 φ0 φ b cs T g ds E o w')) := by
  refine (Rtext_any h.out.f.x.inv.fz hp.out s.out hk hk9 ht).mono ?_
  rintro e w' ⟨rfl, hb⟩
  exact ⟨rfl, Lib.hid (h.out.callB hb)⟩
end
set_option maxRecDepth 100000 in
set_option maxHeartbeats 2000000 in
theorem RRatio_any {M : Nat} (hD : Hid (RdivOk M)) (hM : LenB M) {v : Value} {x : Rat} {N D : Nat} {w : World} {φ : Phi} (hφ : Fz φ w) (hp : PowP φ) (hv : FrX φ v x N D) (hN : N ≤ M) (hDM : D ≤ M) {S T : ByteArray} {F : Int} (hR : Hid (ratR x = (S, T, F))) :
    Calls Tryz.prog 35 #[v] w (fun e w' => e = .returned (.tuple #[.agg #[.string S, .string T], .int .i64 F]) ∧ Below w.heap.size w w') := by
  obtain ⟨neg, n, d, k1, k2, a1, c1, a2, c2, rfl, s1, s2, h1, h2, hd0, hnN, hdD, hx⟩ := hv.open
  have hn : n ≤ M := Nat.le_trans hnN hN
  have hd : d ≤ M := Nat.le_trans hdD hDM
  have hBX0 := (Inv.start hφ).alloc (.cells #[.bool neg, .slice a1 k1 c1, .slice a2 k2 c2] 55)
  have hRS0 := RsSt.start hBX0 #[.string ⟨#[]⟩, .string ⟨#[]⟩] 33
  rw [alloc_sz] at hRS0
  have HRS := Lib.hid hRS0
  clear hBX0 hRS0
  obtain ⟨g, hg⟩ : ∃ g, Nat.gcd n d = g := ⟨_, rfl⟩
  have hg0 : 0 < g := by rw [← hg]; exact gcd_dle hd0
  obtain ⟨q1, hq1⟩ : ∃ k, Hid ((limbs (n / g)).length = k) := ⟨_, Lib.hid rfl⟩
  obtain ⟨q2, hq2⟩ : ∃ k, Hid ((limbs (d / g)).length = k) := ⟨_, Lib.hid rfl⟩
  have hl1 : q1 ≤ 1000000000 := by rw [← hq1.out]; exact hM.len (Nat.le_trans (Nat.div_le_self n g) hn)
  have hl2 : q2 ≤ 1000000000 := by rw [← hq2.out]; exact hM.len (Nat.le_trans (Nat.div_le_self d g) hd)
  obtain ⟨ng, hng⟩ : ∃ b, Hid ((neg && decide (n / g ≠ 0)) = b) := ⟨_, Lib.hid rfl⟩
  obtain ⟨s, hs⟩ : ∃ s, Hid (decB (n / g) = s) := ⟨_, Lib.hid rfl⟩
  obtain ⟨t, ht⟩ : ∃ s, Hid (decB (d / g) = s) := ⟨_, Lib.hid rfl⟩
  have hRR : Hid (ratN ng s t = (S, T, F)) := Lib.hid (by
    have := hR.out
    rw [← hx, ratR_eq hd0, hg, hng.out, hs.out, ht.out] at this
    exact this)
  have hss : s.size ≤ 9000000001 := by rw [← hs.out]; have := decB_len hq1.out; omega
  have htt : t.size ≤ 9000000001 := by rw [← ht.out]; have := decB_len hq2.out; omega
  have hC := Lib.hid (fun W (hf : Fz φ W) => (Rlowest_any (neg := neg) hD hf s1 s2 h1 h2 hn hd hd0 hM))
  rw [hg, hng.out] at hC
  have HP := Lib.hid hp
  clear s1 s2 hφ hp hR hg hx
  go_enter Tryz.func35, Tryz.ntmps35
  go_wp2_with (go_at_call 94; refine (hC.out _ HRS.out.inv.fz).mono ?_; rintro e w1 ⟨a3, c3, a4, c4, φ1, rfl, hi1, hs3, hs4⟩; rw [hq1.out, hq2.out]; have R1 := Lib.hid (HRS.out.call hi1); have L1 := Lib.hid hi1.le; have SN := Lib.hid hs3; have SD := Lib.hid hs4; clear hi1 hs3 hs4)
  obtain ⟨bb, hbb⟩ : ∃ b, w.heap.size = b := ⟨_, rfl⟩
  obtain ⟨g4, hg4⟩ : ∃ b, w1.heap.size = b := ⟨_, rfl⟩
  have hF1 : Hid (RtS w φ φ1 g4 #[.bool ng, .slice a3 q1 c3, .slice a4 q2 c4] 55 (bb + 1) #[.string ⟨#[]⟩, .string ⟨#[]⟩] 33 none (w1.alloc (.cells #[.bool ng, .slice a3 q1 c3, .slice a4 q2 c4] 55))) := Lib.hid (by
    subst hbb hg4
    exact ⟨⟨RsSt.start R1.out.inv _ _, R1.out.callB ((Below.refl _ _).alloc (Nat.le_refl _) _)⟩, fun x hx => by cases hx⟩)
  have HBB := Lib.hid hbb
  rw [hbb, hg4]
  clear R1 hg4 hbb
  generalize w1.alloc (.cells #[.bool ng, .slice a3 q1 c3, .slice a4 q2 c4] 55) = wx at *
  have HP1 := Lib.hid (HP.out.mono L1.out)
  have hFd : Hid (RtS w φ φ1 g4 #[.bool ng, .slice a3 q1 c3, .slice a4 q2 c4] 55 (bb + 1) #[.string ⟨#[]⟩, .string ⟨#[]⟩] 33 none wx.drew) := Lib.hid (hF1.out.callB (bdrewN (Below.refl _ wx) 1))
  have y0 : wx.cell? ⟨g4, 0, none⟩ = some (.bool ng) := hF1.out.f.x.k.cell 0
  have y1 : wx.cell? ⟨g4, 1, none⟩ = some (.slice a3 q1 c3) := hF1.out.f.x.k.cell 1
  have y2 : wx.cell? ⟨g4, 2, none⟩ = some (.slice a4 q2 c4) := hF1.out.f.x.k.cell 2
  apply wp_region_cut1 (fr := fun x => { tmps := #[.agg #[.bool neg, .slice a1 k1 c1, .slice a2 k2 c2], .pointer (some ⟨bb, 0, none⟩), .pointer (some ⟨bb + 1, 0, none⟩), .int .i64 0, .pointer (some ⟨g4, 0, none⟩), .pointer (some ⟨x, 0, none⟩), .agg #[.bool neg, .slice a1 k1 c1, .slice a2 k2 c2], .agg #[.bool ng, .slice a3 q1 c3, .slice a4 q2 c4], .pointer (some ⟨g4, 1, none⟩), .slice a3 q1 c3, .string s, .pointer (some ⟨g4, 2, none⟩), .slice a4 q2 c4, .string t, .agg #[.string s, .string t], undef, undef, undef, undef, undef, undef, undef, undef, undef, undef, undef, undef, undef, undef, undef, undef, undef, undef], defers := [] })
    (S := fun x W => Hid (Fr2 w φ φ1 g4 #[.bool ng, .slice a3 q1 c3, .slice a4 q2 c4] 55 (bb + 1) #[.string ⟨#[]⟩, .string ⟨#[]⟩] 33 W ∧ RsSt w φ φ1 x #[.string s, .string t] 33 W ∧ x ≠ g4 ∧ x ≠ bb + 1))
  case h1 =>
    go_region_held3 (fun w' => w'.cell? ⟨g4, 1, none⟩ = some (.slice a3 q1 c3) ∧ w'.cell? ⟨g4, 2, none⟩ = some (.slice a4 q2 c4)) (first | exact ⟨y1, y2⟩ | exact ⟨by assumption, by assumption⟩ | exact ⟨keepA (by assumption), keepA (by assumption)⟩ | exact ⟨keep2 (by assumption) (by assumption), keep2 (by assumption) (by assumption)⟩) (first
      | ((with_reducible refine (Rtext_S HP1 SN hq1 hl1 hs (by first | assumption | exact RtS.al (by assumption) | exact RtS.alD hF1)).mono ?_); rintro e w' ⟨rfl, hX⟩; have z1 : w'.cell? ⟨g4, 1, none⟩ = some (.slice a3 q1 c3) := hX.out.f.x.k.cell 1; have z2 : w'.cell? ⟨g4, 2, none⟩ = some (.slice a4 q2 c4) := hX.out.f.x.k.cell 2; (try obtain ⟨v0, v1, v2, v3, v4⟩ := RtS.facts hX))
      | ((with_reducible refine (Rtext_S HP1 SD hq2 hl2 ht (by first | assumption | exact RtS.al (by assumption) | exact RtS.alD hF1)).mono ?_); rintro e w' ⟨rfl, hX⟩; have z1 : w'.cell? ⟨g4, 1, none⟩ = some (.slice a3 q1 c3) := hX.out.f.x.k.cell 1; have z2 : w'.cell? ⟨g4, 2, none⟩ = some (.slice a4 q2 c4) := hX.out.f.x.k.cell 2; (try obtain ⟨v0, v1, v2, v3, v4⟩ := RtS.facts hX)))
    all_goals first
      | exact onlyN_mk ⟨_, rfl, RtS.put (by assumption)⟩
      | exact onlyN_mk ⟨_, rfl, RtS.putNew (by assumption)⟩
  case h2 =>
    intro x W9 hF9
    obtain ⟨hFF, hXX, ne1, ne2⟩ := hF9.out
    have HFF := Lib.hid hFF
    have HXX := Lib.hid hXX
    have p0 : W9.cell? ⟨g4, 0, none⟩ = some (.bool ng) := hFF.x.k.cell 0
    have p1 : W9.cell? ⟨x, 0, none⟩ = some (.string s) := hXX.k.cell 0
    have p2 : W9.cell? ⟨x, 1, none⟩ = some (.string t) := hXX.k.cell 1
    have p3 := hXX.k.frz 0
    have r0 : W9.cell? ⟨bb + 1, 0, none⟩ = some (.string ⟨#[]⟩) := hFF.r.k.cell 0
    have r1 : W9.cell? ⟨bb + 1, 1, none⟩ = some (.string ⟨#[]⟩) := hFF.r.k.cell 1
    have r2 := hFF.r.k.frz 0
    have r3 := hFF.r.k.frz 1
    have hZ0 := Lib.hid (fun (u v : Value) => ((hFF.r.set 0 u).set 1 v))
    have hZ1 := Lib.hid (fun (z u v : Value) => (((hFF.r.oth hXX ne2 0 z).set 0 u).set 1 v))
    clear hF9 hFF hXX y0 y1 y2 hFd hF1
    by_cases g1 : 2000 < s.size
    · have g1i : (2000 : Int) < (s.size : Int) := by omega
      have hq : Hid (S = ⟨#[]⟩ ∧ T = ⟨#[]⟩ ∧ F = 2) := Lib.hid (by
        have := hRR.out; rw [ratN, if_pos (.inl g1)] at this
        cases this; exact ⟨rfl, rfl, rfl⟩)
      clear g1
      go_wp2
      have hZ := Lib.hid (hZ0.out (.string ⟨#[]⟩) (.string ⟨#[]⟩))
      have e0 : _ = some (Value.string ⟨#[]⟩) := hZ.out.k.cell 0
      have e1 : _ = some (Value.string ⟨#[]⟩) := hZ.out.k.cell 1
      (try simp only [Exit.inBlock, Exit.then])
      refine bodyPost_ret (v := .tuple #[.agg #[.string ⟨#[]⟩, .string ⟨#[]⟩], .int .i64 2]) (by simp [results, Tryz.results35, go_sem, e0, e1]) rfl ?_
      exact ⟨by rw [hq.out.1, hq.out.2.1, hq.out.2.2], hZ.out.inv.bel⟩
    · have g1i : ¬ (2000 : Int) < (s.size : Int) := by omega
      by_cases g2 : 2000 < t.size
      · have g2i : (2000 : Int) < (t.size : Int) := by omega
        have hq : Hid (S = ⟨#[]⟩ ∧ T = ⟨#[]⟩ ∧ F = 2) := Lib.hid (by
          have := hRR.out; rw [ratN, if_pos (.inr g2)] at this
          cases this; exact ⟨rfl, rfl, rfl⟩)
        clear g1 g2
        go_wp2
        have hZ := Lib.hid (hZ0.out (.string ⟨#[]⟩) (.string ⟨#[]⟩))
        have e0 : _ = some (Value.string ⟨#[]⟩) := hZ.out.k.cell 0
        have e1 : _ = some (Value.string ⟨#[]⟩) := hZ.out.k.cell 1
        (try simp only [Exit.inBlock, Exit.then])
        refine bodyPost_ret (v := .tuple #[.agg #[.string ⟨#[]⟩, .string ⟨#[]⟩], .int .i64 2]) (by simp [results, Tryz.results35, go_sem, e0, e1]) rfl ?_
        exact ⟨by rw [hq.out.1, hq.out.2.1, hq.out.2.2], hZ.out.inv.bel⟩
      · have g2i : ¬ (2000 : Int) < (t.size : Int) := by omega
        have g3 : ¬ 9223372036854775807 < 1 + s.size := by omega
        have hq0 := hRR.out
        rw [ratN, if_neg (by omega)] at hq0
        clear g1 g2
        cases ng
        · have hq : Hid (S = s ∧ T = t ∧ F = 0) := Lib.hid (by
            rw [if_neg (by simp)] at hq0; cases hq0; exact ⟨rfl, rfl, rfl⟩)
          clear hq0
          go_wp2
          have hZ := Lib.hid (hZ0.out (.string s) (.string t))
          have e0 : _ = some (Value.string s) := hZ.out.k.cell 0
          have e1 : _ = some (Value.string t) := hZ.out.k.cell 1
          (try simp only [Exit.inBlock, Exit.then])
          refine bodyPost_ret (v := .tuple #[.agg #[.string s, .string t], .int .i64 0]) (by simp [results, Tryz.results35, go_sem, e0, e1]) rfl ?_
          exact ⟨by rw [hq.out.1, hq.out.2.1, hq.out.2.2], hZ.out.inv.bel⟩
        · have hq : Hid (S = (⟨#[45]⟩ ++ s) ∧ T = t ∧ F = 0) := Lib.hid (by
            rw [if_pos rfl] at hq0; cases hq0; exact ⟨rfl, rfl, rfl⟩)
          clear hq0
          go_wp2
          have hZ := Lib.hid (hZ1.out (.string (⟨#[45]⟩ ++ s)) (.string (⟨#[45]⟩ ++ s)) (.string t))
          have e0 : _ = some (Value.string (⟨#[45]⟩ ++ s)) := hZ.out.k.cell 0
          have e1 : _ = some (Value.string t) := hZ.out.k.cell 1
          (try simp only [Exit.inBlock, Exit.then])
          refine bodyPost_ret (v := .tuple #[.agg #[.string (⟨#[45]⟩ ++ s), .string t], .int .i64 0]) (by simp [results, Tryz.results35, go_sem, e0, e1]) rfl ?_
          exact ⟨by rw [hq.out.1, hq.out.2.1, hq.out.2.2], hZ.out.inv.bel⟩
end Go.Proofs.YtnlhalnjbkpdnaaGreatDoor

namespace Go.Proofs.YtnlhalnjbkpdnaaGreatDoor
open Go.RowKit
set_option linter.unusedVariables false
set_option linter.unusedSimpArgs false
end Go.Proofs.YtnlhalnjbkpdnaaGreatDoor

namespace Go.Proofs.YtnlhalnjbkpdnaaGreatDoor
open Go.RowKit
set_option linter.unusedVariables false
set_option linter.unusedSimpArgs false
end Go.Proofs.YtnlhalnjbkpdnaaGreatDoor
