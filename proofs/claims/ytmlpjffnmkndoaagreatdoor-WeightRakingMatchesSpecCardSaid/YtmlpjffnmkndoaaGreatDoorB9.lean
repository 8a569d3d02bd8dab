/- The reference's natural numbers: the walk of text. Conditions: the library's table of powers of ten reads as it was laid. -/
import Derived.Test.YtmlpjffnmkndoaaGreatDoorB8
import Derived.Test.YtmlpjffnmkndoaaGreatDoorBL
namespace Go.Proofs.YtmlpjffnmkndoaaGreatDoor
open Go.RowKit
set_option linter.unusedVariables false
set_option linter.unusedSimpArgs false
theorem repeat48 : ∀ k, Lib.repeatL [48] k = List.replicate k 48
 | 0 => rfl
 | k + 1 => by rw [Lib.repeatL, repeat48 k, List.replicate_succ]; rfl
theorem Repeat0_any {k : Nat} {L : Int} (hL : L = k) (hk : k ≤ 1000) (w : World) :
  Calls Tryz.prog 105 #[.string ⟨#[48]⟩, .int .i64 L] w (fun e w' => e = .returned (.string (bl (List.replicate k 48))) ∧ Below w.heap.size w w') := by
 subst hL
 refine (Any.strings_Repeat Tryz.lays105 Tryz.Builder_Extra_105 ⟨#[48]⟩ k w (by omega) (by show 1 * k ≤ _; omega)).mono ?_
 rintro e w' ⟨rfl, hb⟩
 exact ⟨by rw [show (⟨#[48]⟩ : ByteArray).data.toList = [48] from rfl, repeat48]; rfl, hb⟩
/-- The limbs from k on, as a text. -/
theorem text_next {X : List Nat} {k n : Nat} (hn : X.length = n) (hl : Lim X) (hk : k + 1 < n) (hp : 0 < LV (X.drop (k + 1))) :
  decB (LV (X.drop k)) = decB (LV (X.drop (k + 1))) ++ (bl (List.replicate (9 - (Lib.decDigits (X.getD k 0)).length) 48) ++ bl (Lib.decDigits (X.getD k 0))) := by
 have hx : X.getD k 0 < lb := hl.getD k
 rw [LV_drop X k (by omega), decB_bl, decB_bl, dec_lb hp hx, bl_app, bl_app, pad_eq 8 _ (by rw [show (8 + 1) = 9 from rfl, ← lb_ten]; exact hx)]
theorem top_drop {m k : Nat} (hk : (limbs m).length = k + 1) : LV ((limbs m).drop k) = (limbs m).getD k 0 ∧ 0 < (limbs m).getD k 0 := by
 have hne : limbs m ≠ [] := by intro e; rw [e] at hk; simp at hk
 refine ⟨?_, ?_⟩
 ·rw [LV_drop _ _ (by omega), LV_drop_ge _ _ (by omega)]; omega
 ·have h1 := limbs_top hne
  have h2 := getD_last hne
  rw [hk, Nat.add_sub_cancel] at h2
  rw [h2]; omega
theorem drop_pos {X : List Nat} {k : Nat} : ∀ j, j ≤ k → 0 < LV (X.drop k) → k ≤ X.length → 0 < LV (X.drop j)
  | j, hj, hp, hk => by
    rw [LV_take_drop (X.drop j) (k - j) (by rw [List.length_drop]; omega), List.drop_drop, show j + (k - j) = k by omega]
    have : 0 < lb ^ (k - j) := Nat.pow_pos lb_pos
    have := Nat.mul_pos this hp
    omega
set_option maxRecDepth 100000 in
set_option maxHeartbeats 1000000 in
theorem Rtext_any {m k : Nat} {a : Option Addr} {c : Nat} {w : World} {φ : Phi} (hφ : Fz φ w) (hp : PowP φ) (s : SlV φ a c (limbs m)) (hk : Hid ((limbs m).length = k)) (hk9 : k ≤ 1000000000) {t : ByteArray} (ht : Hid (decB m = t)) :
  Calls Tryz.prog 52 #[.slice a k c] w (fun e w' => e = .returned (.string t) ∧ Below w.heap.size w w') := by
 go_enter Tryz.func52, Tryz.ntmps52
 by_cases h0 : k = 0
 ·subst h0
  have hm : m = 0 := limbs_len0.1 hk.out
  subst hm
  go_wp2
  go_ret
  exact ⟨by rw [← ht.out, decB, dec_lt (by omega)]; rfl, Below.refl _ _⟩
 ·have hk0 : ((k : Int) == 0) = false := by simp [h0]
  obtain ⟨k, rfl⟩ : ∃ j, k = j + 1 := ⟨k - 1, by omega⟩
  have hLm : Hid (Lim (limbs m)) := Lib.hid (limbs_lim m)
  have htop := Lib.hid (top_drop hk.out)
  have hS0 : Hid (TxSt w φ w.heap.size ⟨#[]⟩ (w.alloc (.cells #[.pointer none, .slice none 0 0] 135))) := Lib.hid (TxSt.start (Inv.start hφ))
  have hfin : Hid (decB (LV (limbs m)) = t) := Lib.hid (by rw [LV_limbs]; exact ht.out)
  have HP := Lib.hid hp
  generalize limbs m = X at *
  obtain ⟨bb, hbb⟩ : ∃ b, Hid (w.heap.size = b) := ⟨_, Lib.hid rfl⟩
  rw [hbb.out] at hS0
  obtain ⟨b, off, rfl, f⟩ := s.natI hk (k := k) (by omega)
  obtain ⟨_, d1⟩ := f k (by omega) _ (hφ.alloc (.cells #[.pointer none, .slice none 0 0] 135))
  have HF := Lib.hid f
  obtain ⟨x, hx⟩ : ∃ x, Hid (X.getD k 0 = x) := ⟨_, Lib.hid rfl⟩
  have hxl : x < 1000000000 := by rw [← hx.out]; exact hLm.out.getD _
  rw [hx.out] at d1
  have hbd : ((k + 1 : Nat) : Int) - 1 < ((k + 1 : Nat) : Int) := by omega
  have hb0 : (0 : Int) ≤ ((k + 1 : Nat) : Int) - 1 := by omega
  have hto : (((k + 1 : Nat) : Int) - 1).toNat = k := by omega
  have htx : Hid (itoaB (x : Int) = decB (LV (X.drop k))) := Lib.hid (by rw [itoa_nat, htop.out.1, hx.out]; rfl)
  have hxs : (itoaB (x : Int)).size ≤ 9 := by rw [itoa_nat, bl_size]; exact dec_lim hxl
  obtain ⟨u0, hu0⟩ : ∃ u, Hid (itoaB (x : Int) = u) := ⟨_, Lib.hid rfl⟩
  rw [hu0.out] at htx hxs
  have hpos : Hid (0 < LV (X.drop k)) := Lib.hid (by rw [htop.out.1]; exact htop.out.2)
  clear h0 hφ hp f
  go_wp2_with (first
   | (go_at_call 104; refine (Itoa_any (x : Int) (by omega) (by omega) _ φ hS0.out.inv.fz HP.out).mono ?_; rintro e w1 ⟨rfl, hb1⟩; rw [hu0.out]; have HS1 := Lib.hid (hS0.out.callB hb1); clear hb1)
   | (go_at_call 103; rw [hbb.out]; refine (WriteString_any HS1.out (by show 0 + _ ≤ _; omega)).mono ?_; rintro e w2 ⟨rfl, hT2, _⟩; have HT2 := Lib.hid hT2; clear hT2))
  have hS2 : Hid (TxSt w φ bb u0 w2) := Lib.hid (by have := HT2.out; rwa [show (⟨#[]⟩ : ByteArray) ++ u0 = u0 from ByteArray.empty_append] at this)
  go_loopw [4, 5] (fun v sv wr => ∃ (j : Nat) (u : ByteArray), j ≤ k ∧ v = .int .i64 ((j : Int) - 1) ∧ u.size ≤ 9 * (k + 1 - j) ∧ Hid (decB (LV (X.drop j)) = u) ∧ Hid (TxSt w φ bb u wr)) (fun v _ _ => (intOf v + 1).toNat)
  case atStart => exact ⟨k, u0, Nat.le_refl _, by congr 1; omega, by omega, Lib.hid (by rw [← htx.out]), hS2⟩
  case round =>
   clear hS0 HS1 HT2 hS2
   obtain ⟨j, u, hj, rfl, hul, hu, hS⟩ := hrel
   by_cases hj0 : j = 0
   ·subst hj0
    have hneg : ¬ (0 : Int) ≤ ((0 : Nat) : Int) - 1 := by omega
    go_wp2_with (go_at_call 106; refine (String_any hS.out).mono ?_; rintro e w2 ⟨rfl, hT⟩; have HT := Lib.hid hT; clear hT)
    go_ret
    exact ⟨by rw [← hfin.out, ← hu.out]; rfl, HT.out.inv.bel⟩
   ·obtain ⟨_, d1⟩ := HF.out (j - 1) (by omega) wr hS.out.inv.fz
    obtain ⟨x, hx⟩ : ∃ x, Hid (X.getD (j - 1) 0 = x) := ⟨_, Lib.hid rfl⟩
    have hxl : x < 1000000000 := by rw [← hx.out]; exact hLm.out.getD _
    rw [hx.out] at d1
    obtain ⟨ds, hds⟩ : ∃ v, Hid (Lib.decDigits x = v) := ⟨_, Lib.hid rfl⟩
    have hd9 := dec_lim hxl
    have hd1 := dec_pos x
    have hit : Hid (itoaB (x : Int) = bl ds) := Lib.hid (by rw [itoa_nat, hds.out])
    rw [hds.out] at hd9 hd1
    obtain ⟨v, hv⟩ : ∃ v, Hid (bl ds = v) := ⟨_, Lib.hid rfl⟩
    have hvl : v.size = ds.length := by rw [← hv.out, bl_size]
    obtain ⟨z, hz⟩ : ∃ z, Hid (bl (List.replicate (9 - ds.length) 48) = z) := ⟨_, Lib.hid rfl⟩
    have hzl : z.size = 9 - ds.length := by rw [← hz.out, bl_size, List.length_replicate]
    have hnx : Hid (decB (LV (X.drop (j - 1))) = (u ++ z) ++ v) := Lib.hid (by
     rw [text_next hk.out hLm.out (k := j - 1) (by omega) (by rw [show j - 1 + 1 = j by omega]; exact drop_pos j hj hpos.out (by rw [hk.out]; omega)), show j - 1 + 1 = j by omega, hu.out, hx.out, hds.out, hz.out, hv.out, ByteArray.append_assoc])
    have hpos : (0 : Int) ≤ (j : Int) - 1 := by omega
    have hbd : (j : Int) - 1 < ((k + 1 : Nat) : Int) := by omega
    have hto : ((j : Int) - 1).toNat = j - 1 := by omega
    have h9 : Hid ((9 : Int) - (ds.length : Int) = ((9 - ds.length : Nat) : Int)) := Lib.hid (by omega)
    have hv9 : (v.size : Int) ≤ 9 := by omega
    have hw9 : (0 : Int) ≤ 9 - (v.size : Int) := by omega
    have huz : (u ++ z).size = u.size + z.size := ByteArray.size_append
    go_wp2_with (first
     | (go_at_call 104; refine (Itoa_any (x : Int) (by omega) (by omega) _ φ hS.out.inv.fz HP.out).mono ?_; rintro e w1 ⟨rfl, hb1⟩; rw [hit.out, hv.out]; have HS1 := Lib.hid (hS.out.callB hb1); clear hb1)
     | (go_at_call 105; (with_reducible refine (Repeat0_any h9.out (by omega) _).mono ?_); rintro e w2 ⟨rfl, hb2⟩; rw [hz.out]; have HS2 := Lib.hid (HS1.out.callB hb2); clear hb2)
     | (go_at_call 103; (with_reducible refine (WriteString_any (s := v) HS3.out (by omega)).mono ?_); rintro e w4 ⟨rfl, hT4, _⟩; have HS4 := Lib.hid hT4; clear hT4)
     | (go_at_call 103; (with_reducible refine (WriteString_any (s := z) HS2.out (by omega)).mono ?_); rintro e w3 ⟨rfl, hT3, _⟩; have HS3 := Lib.hid hT3; clear hT3))
    go_roundw
    case rel => exact ⟨j - 1, (u ++ z) ++ v, by omega, by go_num, by rw [ByteArray.size_append]; omega, hnx, HS4⟩
    case measure => simp [intOf]; omega
end Go.Proofs.YtmlpjffnmkndoaaGreatDoor
