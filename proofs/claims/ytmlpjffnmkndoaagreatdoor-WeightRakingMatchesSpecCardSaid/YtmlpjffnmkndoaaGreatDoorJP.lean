/- The walk of the program's Ratios. Conditions: the library's table of powers of ten reads as it was laid. The program's sums: lowest at an exact number; a result's cell and perhaps a new one. The walk of the program's sumOf. The walk of the program's SumOf. The walk of the program's Effective. Conditions: none beyond what the claim form gives. -/
import Derived.Test.YtmlpjffnmkndoaaGreatDoorJA
import Derived.Test.YtmlpjffnmkndoaaGreatDoorJZ
import Derived.Test.YtmlpjffnmkndoaaGreatDoorPD
import Derived.Test.YtmlpjffnmkndoaaGreatDoorP16
namespace Go.Proofs.YtmlpjffnmkndoaaGreatDoor
open Go.RowKit
set_option linter.unusedVariables false
set_option linter.unusedSimpArgs false
theorem fx_getD (N D : Nat) (xs : List Rat) (k : Nat) : ((xs.map (Fx.mk (N := N) (D := D))).getD k ⟨0⟩).x = xs.getD k 0 := by
 simp only [List.getD_eq_getElem?_getD, List.getElem?_map]
 cases xs[k]? <;> rfl
set_option maxRecDepth 100000 in
set_option maxHeartbeats 2000000 in
theorem Ratios_any {M : Nat} (hD : Hid (DivOk M)) (hM : LenB M) {N D : Nat} (hN : N ≤ M) (hDM : D ≤ M) {n : Nat} {a : Option Addr} {cap : Nat} {xs : List Rat} {w : World} {φ : Phi} (hφ : Fz φ w) (hp : PowP φ) (sl : SlV φ a cap (xs.map (Fx.mk (N := N) (D := D)))) (hn : Hid (xs.length = n)) (hn3 : n ≤ 3000) {L : List Rti} {F : Int} (hR : Hid (shtR xs = (L, F))) :
  Calls Tryz.prog 31 #[.slice a n cap] w (SlPost (L, F) φ w) := by
 have HP := Lib.hid hp
 have hnm : Hid ((xs.map (Fx.mk (N := N) (D := D))).length = n) := Lib.hid (by rw [List.length_map, hn.out])
 have hnl : n ≤ 9223372036854775807 := by have := sl.capn; have := sl.capm; rw [hnm.out] at *; unfold maxLen at *; omega
 have hnl2 : n ≤ maxLen := by have h1 := sl.capn; have h2 := sl.capm; rw [hnm.out] at h1; omega
 have hS0 : Hid (OwSt w φ 32 none 0 ([] : List Rti) w) := Lib.hid ⟨Inv.start hφ, Own.nil _ _ _ _⟩
 clear hp hφ
 go_enter Tryz.func31, Tryz.ntmps31
 go_wp2
 go_loopw [4, 11] (fun ov iv wr => ∃ (k : Nat) (ao : Option Addr) (co : Nat) (os : List Rti), k ≤ n ∧ iv = .int .i64 (k : Int) ∧ ov = .slice ao k co ∧ Hid (os.length = k) ∧ Hid (os = (xs.take k).map shtT) ∧ Hid (∀ i, i < k → shtF (xs.getD i 0) = 0) ∧ Hid (OwSt w φ 32 ao co os wr)) (fun _ iv _ => n - (intOf iv).toNat)
 case atStart => exact ⟨0, none, 0, [], Nat.zero_le _, rfl, rfl, Lib.hid rfl, Lib.hid rfl, none_yet _, hS0⟩
 case round =>
  clear hS0
  obtain ⟨k, ao, co, os, hk, rfl, rfl, hol, hos, hok, hS⟩ := hrel
  by_cases hlt : k < n
  ·have hlti : (k : Int) < (n : Int) := by omega
   obtain ⟨b, off, rfl, f⟩ := sl.fxD hnm hlt
   obtain ⟨g, a1, k1, c1, a2, k2, c2, hx, f2⟩ := f k hlt
   obtain ⟨d0, d1, d2⟩ := f2 wr hS.out.inv.fz
   rw [fx_getD] at hx
   obtain ⟨x, hxe⟩ : ∃ x, Hid (xs.getD k 0 = x) := ⟨_, Lib.hid rfl⟩
   rw [hxe.out] at hx
   have HX := Lib.hid hx
   obtain ⟨S, hS'⟩ : ∃ S, (ratR x).1 = S := ⟨_, rfl⟩
   obtain ⟨T, hT'⟩ : ∃ S, (ratR x).2.1 = S := ⟨_, rfl⟩
   obtain ⟨G, hG'⟩ : ∃ S, (ratR x).2.2 = S := ⟨_, rfl⟩
   have hRR : Hid (ratR x = (S, T, G)) := Lib.hid (by rw [← hS', ← hT', ← hG'])
   have hnx : Hid (os ++ [(S, T)] = (xs.take (k + 1)).map shtT) := Lib.hid (by
    rw [take_snocD 0 xs k n hn.out hlt, List.map_append, ← hos.out, hxe.out, List.map_singleton]
    show _ = os ++ [((ratR x).1, (ratR x).2.1)]
    rw [hS', hT'])
   have hFG : Hid (shtF (xs.getD k 0) = G) := Lib.hid (by rw [hxe.out]; exact hG')
   have hS1 := Lib.hid (hS.out.callB ((Below.refl _ _).alloc (Nat.le_refl _) (.cells #[.bool g, .slice a1 k1 c1, .slice a2 k2 c2] 70)))
   clear f f2 hx hS' hT' hG' hS
   by_cases hg0 : G = 0
   ·subst hg0
    have hok2 := next_ok hok hFG.out
    go_upto_region 8 with (go_at_call 47; (with_reducible refine (PRatio_any hD hM hS1.out.inv.fz HP.out HX.out hN hDM hRR).mono ?_); rintro e w4 ⟨rfl, hb4⟩; have hS4 := Lib.hid ((hS1.out.callB hb4).callB ((Below.refl _ _).alloc (Nat.le_refl _) (.cells #[.string S, .string T] 32))); have KB := Lib.hid (Blk.new w4 #[.string S, .string T] 32); clear hb4)
    generalize w4.alloc (.cells #[.string S, .string T] 32) = wb at *
    generalize w4.heap.size = g9 at *
    have r0 : wb.cell? ⟨g9, 0, none⟩ = some (.string S) := KB.out.cell 0
    have r1 : wb.cell? ⟨g9, 1, none⟩ = some (.string T) := KB.out.cell 1
    have hin := Lib.hid hS4.out.inv
    have hon := Lib.hid hS4.out.own
    clear KB d0 d1 d2
    go_wp2_with (at_builtin; (refine wpList_app1F (α := Rti) rfl _ _ 24 rfl slRti hin.out ao co os hon.out #[.string S, .string T] 32 (S, T) ⟨[.string S], [.string T], rfl, rfl, rfl⟩ (by rw [hol.out]; rfl) 1 rfl (by rw [hol.out]; omega) ?_; intro a9 c9 w9 hi9 ho9 hg9 hf9; rw [show (os ++ [(S, T)]).length = k + 1 from by rw [List.length_append, hol.out]; rfl]))
    go_roundw
    case rel => exact ⟨k + 1, a9, c9, os ++ [(S, T)], by omega, by go_num, rfl, Lib.hid (by rw [List.length_append, hol.out]; rfl), hnx, hok2, Lib.hid ⟨hi9, ho9⟩⟩
    case measure => (simp [intOf] <;> omega)
   ·have hE : Hid (([], G) = (L, F)) := Lib.hid (by
     rw [← hR.out]
     exact (shtR_err hn.out hlt hok.out hFG.out hg0).symm)
    have h0i : (G == 0) = false := by simp [hg0]
    have h0j : (G != 0) = true := by simp [hg0]
    clear hg0
    go_wp2_with (go_at_call 47; (with_reducible refine (PRatio_any hD hM hS1.out.inv.fz HP.out HX.out hN hDM hRR).mono ?_); rintro e w4 ⟨rfl, hb4⟩; have hS4 := Lib.hid ((hS1.out.callB hb4).callB ((Below.refl _ _).alloc (Nat.le_refl _) (.cells #[.string S, .string T] 32))); clear hb4)
    go_ret2
    have := hE.out
    injection this with e1 e2
    subst e1 e2
    exact ⟨none, 0, φ, rfl, hS4.out.inv, SlV.empty φ⟩
  ·obtain rfl : k = n := by omega
   have hE : Hid ((os, 0) = (L, F)) := Lib.hid (by
    rw [← hR.out, shtR_ok hn.out hok.out, hos.out, List.take_of_length_le (by rw [hn.out]; exact Nat.le_refl _)])
   obtain ⟨φ', _, hi', hs', _⟩ := hS.out.own.release hS.out.inv
   have HS' := Lib.hid hs'
   have HI' := Lib.hid hi'
   clear hi' hs' hS hos hok
   go_wp2
   go_ret2
   have := hE.out
   injection this with e1 e2
   subst e1 e2
   exact ⟨ao, co, φ', (by rw [hol.out]; rfl), HI'.out, HS'.out⟩
end Go.Proofs.YtmlpjffnmkndoaaGreatDoor

namespace Go.Proofs.YtmlpjffnmkndoaaGreatDoor
open Go.RowKit
set_option linter.unusedVariables false
set_option linter.unusedSimpArgs false
theorem lowest_X {M : Nat} (hD : Hid (DivOk M)) {v : Value} {x : Rat} {N D : Nat} {w : World} {φ : Phi} (hφ : Fz φ w) (hv : FfX φ v x N D) (hN : N ≤ M) (hDM : D ≤ M) :
  Calls Tryz.prog 110 #[v] w (FfXP x N D φ w) := by
 obtain ⟨neg, n, d, k1, k2, a1, c1, a2, c2, rfl, s1, s2, h1, h2, hd0, hnN, hdD, hx⟩ := hv.open
 have hg0 : 0 < Nat.gcd n d := gcd_dle hd0
 have hgd : Nat.gcd n d ∣ d := Nat.gcd_dvd_right n d
 refine (lowest_any hD hφ s1 s2 h1 h2 (Nat.le_trans hnN hN) (Nat.le_trans hdD hDM) hd0).mono ?_
 rintro e w' ⟨a3, c3, a4, c4, φ', rfl, hi, t1, t2⟩
 exact ⟨_, φ', rfl, hi, _, _, _, a3, c3, a4, c4, rfl, t1, t2, Nat.div_pos (Nat.le_of_dvd hd0 hgd) hg0, Nat.le_trans (Nat.div_le_self n _) hnN, Nat.le_trans (Nat.div_le_self d _) hdD, by rw [rat_lowest hg0 (Nat.gcd_dvd_left n d) hgd, hx]⟩
/-- A result's cell, and perhaps a new cell. -/
structure SoS (w0 : World) (φ0 φ : Phi) (b : Nat) (o : Option Nat) (W : World) : Prop where
 r : RsSt w0 φ0 φ b #[.bool false, .slice none 0 0, .slice none 0 0] 68 W
 o : ∀ x, o = some x → RsSt w0 φ0 φ x #[.bool false, .slice none 0 0, .slice none 0 0] 68 W ∧ x ≠ b
section
variable {w0 W w' : World} {φ0 φ φ' : Phi} {b x : Nat} {o : Option Nat}
theorem SoS.callB (h : SoS w0 φ0 φ b o W) (hb : Below W.heap.size W w') : SoS w0 φ0 φ b o w' := ⟨h.r.callB hb, fun x hx => ⟨(h.o x hx).1.callB hb, (h.o x hx).2⟩⟩
theorem SoS.call (h : SoS w0 φ0 φ b o W) (hi : Inv W.heap.size W φ φ' w') : SoS w0 φ0 φ' b o w' := ⟨h.r.call hi, fun x hx => ⟨(h.o x hx).1.call hi, (h.o x hx).2⟩⟩
theorem SoS.al (h : Hid (SoS w0 φ0 φ b none W)) : Hid (SoS w0 φ0 φ b (some W.heap.size) (W.alloc (.cells #[.bool false, .slice none 0 0, .slice none 0 0] 68))) := by
 refine Lib.hid ⟨h.out.r.callB ((Below.refl _ _).alloc (Nat.le_refl _) _), fun x hx => ?_⟩
 cases hx
 exact ⟨RsSt.start h.out.r.inv _ _, by have := h.out.r.k.lt; omega⟩
theorem SoS.alD (h : Hid (SoS w0 φ0 φ b none W)) : Hid (SoS w0 φ0 φ b (some W.heap.size) (W.alloc (.cells #[.bool false, .slice none 0 0, .slice none 0 0] 68)).drew) := Lib.hid ((SoS.al h).out.callB (bdrewN (Below.refl _ _) 1))
theorem SoS.facts (h : Hid (SoS w0 φ0 φ b (some x) W)) : W.cell? ⟨x, 0, none⟩ = some (.bool false) ∧ W.cell? ⟨x, 1, none⟩ = some (.slice none 0 0) ∧ W.cell? ⟨x, 2, none⟩ = some (.slice none 0 0) ∧ W.frozen? ⟨x, 0, none⟩ = false ∧ W.frozen? ⟨x, 1, none⟩ = false ∧ W.frozen? ⟨x, 2, none⟩ = false ∧ x ≠ b :=
 have k := (h.out.o x rfl).1.k
 ⟨k.cell 0, k.cell 1, k.cell 2, k.frz 0, k.frz 1, k.frz 2, (h.out.o x rfl).2⟩
theorem SoS.put {u v z : Value} (h : Hid (SoS w0 φ0 φ b (some x) W)) : SmS 68 w0 φ0 φ b x #[u, v, z] (((W.setCell ⟨x, 0, none⟩ u).setCell ⟨x, 1, none⟩ v).setCell ⟨x, 2, none⟩ z) := by
 obtain ⟨k, n1⟩ := h.out.o x rfl
 exact (((SmS.mk h.out.r k n1).set 0 u).set 1 v).set 2 z
theorem SoS.putNew {u v z : Value} (h : Hid (SoS w0 φ0 φ b none W)) : SmS 68 w0 φ0 φ b W.heap.size #[u, v, z] (W.alloc (.cells #[u, v, z] 68)) :=
 ⟨h.out.r.callB ((Below.refl _ _).alloc (Nat.le_refl _) _), RsSt.start h.out.r.inv _ _, by have := h.out.r.k.lt; omega⟩
end
theorem SlV.dropG {α : Type} [Rep α] {φ : Phi} {b off cap : Nat} {xs : List α} (h : SlV φ (some ⟨b, off, none⟩) cap xs) {k : Nat} (hk : k ≤ xs.length) : SlV φ (some ⟨b, off + k * Rep.size α, none⟩) (cap - k) (xs.drop k) := by
 have h1 := h.capn; have h2 := h.capm
 refine ⟨by rw [List.length_drop]; omega, by omega, (fun e => by cases e), fun hne => ?_⟩
 obtain ⟨b', off', ha, hc⟩ := h.at_ (by intro e; subst e; simp at hne)
 cases ha
 refine ⟨b, off + k * Rep.size α, rfl, fun j hj => ?_⟩
 rw [List.length_drop] at hj
 obtain ⟨cs, h1, h2⟩ := hc (k + j) (by omega)
 refine ⟨cs, by rw [List.getElem_drop]; exact h1, fun i hi => ?_⟩
 have := h2 i hi
 rw [show off + (k + j) * Rep.size α + i = off + k * Rep.size α + j * Rep.size α + i by rw [Nat.add_mul]; omega] at this
 exact this
end Go.Proofs.YtmlpjffnmkndoaaGreatDoor

namespace Go.Proofs.YtmlpjffnmkndoaaGreatDoor
open Go.RowKit
set_option linter.unusedVariables false
set_option linter.unusedSimpArgs false
set_option maxRecDepth 100000 in
set_option maxHeartbeats 2000000 in
theorem sumOf_any {M : Nat} (hD : Hid (DivOk M)) (hM : LenB M) {N D : Nat} (hD1 : 1 ≤ D) (m : Nat) : ∀ {n : Nat} (hnm : n ≤ m) (h1 : 1 ≤ n) (hM1 : n * N * D ^ n ≤ M) (hM2 : D ^ n ≤ M) {a : Option Addr} {cap : Nat} {xs : List Rat} {w : World} {φ : Phi} (hφ : Fz φ w) (sl : SlV φ a cap (xs.map (Fx.mk (N := N) (D := D)))) (hn : Hid (xs.length = n)) {S : Rat} (hS : Hid (sumQ xs = S)),
  Calls Tryz.prog 111 #[.slice a n cap] w (FfXP S (n * N * D ^ n) (D ^ n) φ w) := by
 induction m with
 | zero => intro n hnm h1; omega
 | succ m ih =>
 intro n hnm h1 hM1 hM2 a cap xs w φ hφ sl hn S hS
 have hnml : Hid ((xs.map (Fx.mk (N := N) (D := D))).length = n) := Lib.hid (by rw [List.length_map, hn.out])
 have hnl : n ≤ 9223372036854775807 := by have := sl.capn; have := sl.capm; rw [hnml.out] at *; unfold maxLen at *; omega
 have hRS := Lib.hid (RsSt.start (Inv.start hφ) #[.bool false, .slice none 0 0, .slice none 0 0] 68)
 obtain ⟨b, off, rfl, f⟩ := sl.fxD hnml (k := 0) (by omega)
 by_cases hn1 : n = 1
 ·subst hn1
  obtain ⟨g6, a6, k6, c6, a7, k7, c7, hx, f2⟩ := f 0 (by omega)
  obtain ⟨x, rfl⟩ : ∃ x, xs = [x] := by
   match xs, hn.out with
   | [x], _ => exact ⟨x, rfl⟩
  have hSx : Hid (S = x) := Lib.hid (by rw [← hS.out]; show x + 0 = x; grind)
  have hx : FfX φ (.agg #[.bool g6, .slice a6 k6 c6, .slice a7 k7 c7]) x N D := hx
  have HX := Lib.hid (hx.le (N' := 1 * N * D ^ 1) (D' := D ^ 1) (by rw [Nat.one_mul, Nat.pow_one]; exact Nat.le_mul_of_pos_right N hD1) (by rw [Nat.pow_one]; exact Nat.le_refl _))
  generalize 1 * N * D ^ 1 = NB at *
  generalize D ^ 1 = DB at *
  have hf2 := Lib.hid f2
  clear hφ hM1 hM2 ih f f2 hx
  go_enter Tryz.func111, Tryz.ntmps111
  go_upto_region 1 with fail
  generalize w.alloc (.cells #[.bool false, .slice none 0 0, .slice none 0 0] 68) = wx at *
  generalize w.heap.size = b2 at *
  obtain ⟨d0, d1, d2⟩ := hf2.out wx hRS.out.inv.fz
  rw [Nat.zero_mul, Nat.add_zero] at d0 d1 d2
  obtain ⟨y0, y1, y2, y3, y4, y5⟩ := hRS.out.facts
  go_wp2
  have hIZ := Lib.hid (((hRS.out.inv.setCell hRS.out.l hRS.out.f (off := 0) (Value.bool g6)).setCell hRS.out.l hRS.out.f (off := 1) (Value.slice a6 k6 c6)).setCell hRS.out.l hRS.out.f (off := 2) (Value.slice a7 k7 c7))
  have hBZ := Lib.hid (((hRS.out.k.set 0 (Value.bool g6)).set 1 (Value.slice a6 k6 c6)).set 2 (Value.slice a7 k7 c7))
  have e0 : _ = some (Value.bool g6) := hBZ.out.cell 0
  have e1 : _ = some (Value.slice a6 k6 c6) := hBZ.out.cell 1
  have e2 : _ = some (Value.slice a7 k7 c7) := hBZ.out.cell 2
  (try simp only [Exit.inBlock, Exit.then])
  refine bodyPost_ret (v := .agg #[(Value.bool g6), (Value.slice a6 k6 c6), (Value.slice a7 k7 c7)]) (by simp [results, Tryz.results111, go_sem, e0, e1, e2]) rfl ?_
  exact ⟨_, φ, rfl, hIZ.out, by rw [hSx.out]; exact HX.out⟩
 ·have hn1i : ¬ (n : Int) = 1 := by omega
  have hn1j : ((n : Int) == 1) = false := by simp; omega
  obtain ⟨h, hh⟩ : ∃ h, n / 2 = h := ⟨_, rfl⟩
  obtain ⟨r, hr⟩ : ∃ r, n = h + r := ⟨n - n / 2, by omega⟩
  have hh1 : 1 ≤ h := by omega
  have hr1 : 1 ≤ r := by omega
  have hquo : Hid ((n : Int).tdiv 2 = (h : Int)) := Lib.hid (by rw [Int.tdiv_eq_ediv_of_nonneg (by omega)]; omega)
  have hhm : h ≤ m := by omega
  have hrm : r ≤ m := by omega
  have hsz3 : Rep.size (Fx N D) = 3 := rfl
  have hlt1 : Hid ((xs.take h).length = h) := Lib.hid (by rw [List.length_take, hn.out]; omega)
  have hlt2 : Hid ((xs.drop h).length = r) := Lib.hid (by rw [List.length_drop, hn.out]; omega)
  have s1 := sl.take h
  rw [← List.map_take] at s1
  have s2 := sl.dropG (k := h) (by rw [hnml.out]; omega)
  rw [← List.map_drop, hsz3] at s2
  have hNe : h * N * D ^ h * D ^ r + r * N * D ^ r * D ^ h = n * N * D ^ n := by
   rw [hr, Nat.pow_add, Nat.add_mul, Nat.add_mul, Nat.mul_assoc (h * N), Nat.mul_assoc (r * N), Nat.mul_comm (D ^ r)]
  have hDe : D ^ h * D ^ r = D ^ n := by rw [hr, Nat.pow_add]
  have m1 : h * N * D ^ h ≤ M := Nat.le_trans (sumB_mono hD1 (by omega)) hM1
  have m2 : D ^ h ≤ M := Nat.le_trans (powB_mono hD1 (by omega)) hM2
  have m3 : r * N * D ^ r ≤ M := Nat.le_trans (sumB_mono hD1 (by omega)) hM1
  have m4 : D ^ r ≤ M := Nat.le_trans (powB_mono hD1 (by omega)) hM2
  have m5 : h * N * D ^ h * D ^ r + r * N * D ^ r * D ^ h ≤ M := by rw [hNe]; exact hM1
  have m6 : D ^ h * D ^ r ≤ M := by rw [hDe]; exact hM2
  obtain ⟨S1, hS1⟩ : ∃ S1, Hid (sumQ (xs.take h) = S1) := ⟨_, Lib.hid rfl⟩
  obtain ⟨S2, hS2⟩ : ∃ S1, Hid (sumQ (xs.drop h) = S1) := ⟨_, Lib.hid rfl⟩
  have hSS : S1 + S2 = S := by rw [← hS1.out, ← hS2.out, ← sumQ_append, List.take_append_drop, hS.out]
  have b0 : w.heap.size = w.heap.size := rfl
  have HC1 := Lib.hid (fun (φ1 : Phi) (hle : φ.le φ1) W (hf : Fz φ1 W) => ih hhm hh1 m1 m2 hf (s1.mono hle) hlt1 hS1)
  have HC2 := Lib.hid (fun (φ1 : Phi) (hle : φ.le φ1) W (hf : Fz φ1 W) => ih hrm hr1 m3 m4 hf (s2.mono hle) hlt2 hS2)
  have HC3 := Lib.hid (fun (φ1 : Phi) W (hf : Fz φ1 W) (v1 v2 : Value) (g1 : FfX φ1 v1 S1 (h * N * D ^ h) (D ^ h)) (g2 : FfX φ1 v2 S2 (r * N * D ^ r) (D ^ r)) => fplus_any hM hf g1 g2 m5 m6)
  rw [hSS, hNe, hDe] at HC3
  have HR := Lib.hid hr
  have HH := Lib.hid hh
  generalize h * N * D ^ h = NB1 at *
  generalize r * N * D ^ r = NB2 at *
  generalize D ^ h = DB1 at *
  generalize D ^ r = DB2 at *
  generalize n * N * D ^ n = NB at *
  generalize D ^ n = DB at *
  have HMM := Lib.hid (And.intro hM1 hM2)
  have hhn : h ≤ n := by omega
  have hrn : n - h = r := by omega
  have HSO0 : Hid (SoS w φ φ w.heap.size none (w.alloc (.cells #[.bool false, .slice none 0 0, .slice none 0 0] 68))) := Lib.hid ⟨hRS.out, fun x hx => by cases hx⟩
  have hcpn : n ≤ cap := by have := sl.capn; rw [hnml.out] at this; exact this
  clear f ih hr hhm hrm m1 m2 m3 m4 m5 m6 hNe hDe hSS hM1 hM2 s1 s2 hφ sl hS1 hS2 hlt1 hlt2 b0 hsz3 hRS
  have HL1 : Hid (∀ (φ1 : Phi) (o : Option Nat) (W : World), Hid (SoS w φ φ1 w.heap.size o W) → Calls Tryz.prog 111 #[.slice (some ⟨b, off, none⟩) h cap] W (fun e w' => ∃ v φ', e = .returned v ∧ Hid (SoS w φ φ' w.heap.size o w') ∧ Hid (FfX φ' v S1 NB1 DB1))) := Lib.hid (fun φ1 o W hs => (HC1.out φ1 hs.out.r.inv.le W hs.out.r.inv.fz).mono (by
   rintro e w' ⟨v, φ', rfl, hi, hv⟩
   exact ⟨v, φ', rfl, Lib.hid (hs.out.call hi), Lib.hid hv⟩))
  have HL2 : Hid (∀ (φ1 : Phi) (o : Option Nat) (W : World), Hid (SoS w φ φ1 w.heap.size o W) → Calls Tryz.prog 111 #[.slice (some ⟨b, off + h * 3, none⟩) r (cap - h)] W (fun e w' => ∃ v φ', e = .returned v ∧ Hid (SoS w φ φ' w.heap.size o w') ∧ Hid (FfX φ' v S2 NB2 DB2) ∧ Hid (φ1.le φ'))) := Lib.hid (fun φ1 o W hs => (HC2.out φ1 hs.out.r.inv.le W hs.out.r.inv.fz).mono (by
   rintro e w' ⟨v, φ', rfl, hi, hv⟩
   exact ⟨v, φ', rfl, Lib.hid (hs.out.call hi), Lib.hid hv, Lib.hid hi.le⟩))
  have HL3 : Hid (∀ (φ1 : Phi) (o : Option Nat) (W : World), Hid (SoS w φ φ1 w.heap.size o W) → ∀ (v1 v2 : Value), FfX φ1 v1 S1 NB1 DB1 → FfX φ1 v2 S2 NB2 DB2 → Calls Tryz.prog 92 #[v1, v2] W (fun e w' => ∃ v φ', e = .returned v ∧ Hid (SoS w φ φ' w.heap.size o w') ∧ Hid (FfX φ' v S NB DB))) := Lib.hid (fun φ1 o W hs v1 v2 g1 g2 => (HC3.out φ1 W hs.out.r.inv.fz v1 v2 g1 g2).mono (by
   rintro e w' ⟨v, φ', rfl, hi, hv⟩
   exact ⟨v, φ', rfl, Lib.hid (hs.out.call hi), Lib.hid hv⟩))
  clear HC1 HC2 HC3
  have hq1 : (n : Int).tdiv 2 = (h : Int) := hquo.out
  have hq2 : (n : Int) / 2 = (h : Int) := by omega
  have hz1 : (0 : Int) ≤ (h : Int) := by omega
  have hz2 : (h : Int) ≤ (n : Int) := by omega
  have hcapn : n ≤ cap := hcpn
  have hz3 : (n : Int) ≤ (cap : Int) := by omega
  have hz4 : (h : Int) ≤ (cap : Int) := by omega
  have hw1 : IntKind.i64.wrap (h : Int) = (h : Int) := IntWalk.i64_in _ (by omega)
  go_enter Tryz.func111, Tryz.ntmps111
  go_upto_region 3 with fail
  generalize w.alloc (.cells #[.bool false, .slice none 0 0, .slice none 0 0] 68) = wx at *
  generalize w.heap.size = b2 at *
  have HSOd : Hid (SoS w φ φ b2 none wx.drew) := Lib.hid (HSO0.out.callB (bdrewN (Below.refl _ wx) 1))
  apply wp_region_cutV (fun (i : Nat × Value × Value × Bool × Option Addr × Nat × Nat × Option Addr × Nat × Nat) => [(11, .slice (some ⟨b, off, none⟩) n cap), (12, .slice (some ⟨b, off, none⟩) n cap), (13, .int .i64 n), (14, .int .i64 h), (15, .slice (some ⟨b, off, none⟩) h cap), (16, i.2.1), (17, .slice (some ⟨b, off, none⟩) n cap), (18, .slice (some ⟨b, off, none⟩) n cap), (19, .int .i64 n), (20, .int .i64 h), (21, .slice (some ⟨b, off + h * 3, none⟩) r (cap - h)), (22, i.2.2.1), (23, .agg #[.bool i.2.2.2.1, .slice i.2.2.2.2.1 i.2.2.2.2.2.1 i.2.2.2.2.2.2.1, .slice i.2.2.2.2.2.2.2.1 i.2.2.2.2.2.2.2.2.1 i.2.2.2.2.2.2.2.2.2]), (3, .pointer (some ⟨i.1, 0, none⟩))])
   (fun i W => Hid (∃ φ3, FfX φ3 (.agg #[.bool i.2.2.2.1, .slice i.2.2.2.2.1 i.2.2.2.2.2.1 i.2.2.2.2.2.2.1, .slice i.2.2.2.2.2.2.2.1 i.2.2.2.2.2.2.2.2.1 i.2.2.2.2.2.2.2.2.2]) S NB DB ∧ SmS 68 w φ φ3 b2 i.1 #[.bool i.2.2.2.1, .slice i.2.2.2.2.1 i.2.2.2.2.2.1 i.2.2.2.2.2.2.1, .slice i.2.2.2.2.2.2.2.1 i.2.2.2.2.2.2.2.2.1 i.2.2.2.2.2.2.2.2.2] W))
  case h1 =>
   intro KK hKK
   go_region_held3 (fun w' => True) (trivial) (first
    | ((with_reducible refine (HL1.out _ _ _ (by first | with_reducible exact HSOd | with_reducible assumption | with_reducible exact SoS.al (by with_reducible assumption) | exact SoS.alD HSO0)).mono ?_); rintro e w' ⟨v1, φ1, rfl, hX1, hV1⟩; (try (with_reducible have vv := SoS.facts hX1); obtain ⟨v0, v1', v2', v3, v4, v5, v6⟩ := vv))
    | ((with_reducible refine (HL2.out _ _ _ (by first | with_reducible assumption | with_reducible exact SoS.al (by with_reducible assumption))).mono ?_); rintro e w' ⟨v2, φ2, rfl, hX2, hV2, hL2⟩; (try (with_reducible have vv := SoS.facts hX2); obtain ⟨v0, v1', v2', v3, v4, v5, v6⟩ := vv))
    | ((with_reducible refine (HL3.out _ _ _ (by first | with_reducible assumption | with_reducible exact SoS.al (by with_reducible assumption)) _ _ (hV1.out.mono hL2.out) hV2.out).mono ?_); rintro e w' ⟨v3, φ3, rfl, hX3, hV3⟩; obtain ⟨g8, n8, m8, k8, k9, a8, c8, a9, c9, rfl, _⟩ := hV3.out.open; (try (with_reducible have vv := SoS.facts hX3); obtain ⟨v0, v1', v2', v3', v4, v5, v6⟩ := vv)))
   all_goals
    refine onlyN_mk ?_
    have hk := fun x W s => hKK.out (x, v1, v2, g8, a8, k8, c8, a9, k9, c9) W (Lib.hid ⟨φ3, hV3.out, s⟩)
    simp only [updA, List.foldl_cons, List.foldl_nil, List.setIfInBounds_toArray, List.set_cons_succ, List.set_cons_zero] at hk
    first
     | exact hk _ _ (SoS.put (by with_reducible assumption))
     | exact hk _ _ (SoS.putNew (by with_reducible assumption))
  case h2 =>
   rintro ⟨x9, v1, v2, g8, a8, k8, c8, a9, k9, c9⟩ W9 hF9
   simp only [updA, List.foldl_cons, List.foldl_nil, List.setIfInBounds_toArray, List.set_cons_succ, List.set_cons_zero]
   obtain ⟨φ3, hv9, hs9⟩ := hF9.out
   have HV := Lib.hid hv9
   have HS := Lib.hid hs9
   have y0 : W9.cell? ⟨x9, 0, none⟩ = some (.bool g8) := hs9.s.k.cell 0
   have y1 : W9.cell? ⟨x9, 1, none⟩ = some (.slice a8 k8 c8) := hs9.s.k.cell 1
   have y2 : W9.cell? ⟨x9, 2, none⟩ = some (.slice a9 k9 c9) := hs9.s.k.cell 2
   clear hF9 hv9 hs9 HL1 HL2 HL3 HSO0 HSOd
   by_cases hk40 : k9 < 40
   ·have hk40i : (k9 : Int) < 40 := by omega
    go_upto_region 6 with (go_at_call 110; (with_reducible refine (lowest_X hD HS.out.s.inv.fz HV.out HMM.out.1 HMM.out.2).mono ?_); rintro e w8 ⟨v8, φ8, rfl, hi8, hv8⟩; obtain ⟨gA, nA, mA, kA, kB, aA, cA, aB, cB, rfl, _⟩ := hv8.open; have S8 := Lib.hid (HS.out.call hi8); have V8 := Lib.hid hv8; have z0 : w8.cell? ⟨x9, 0, none⟩ = some (.bool g8) := S8.out.s.k.cell 0; have z1 : w8.cell? ⟨x9, 1, none⟩ = some (.slice a8 k8 c8) := S8.out.s.k.cell 1; have z2 : w8.cell? ⟨x9, 2, none⟩ = some (.slice a9 k9 c9) := S8.out.s.k.cell 2; have z3 := S8.out.s.k.frz 0; have z4 := S8.out.s.k.frz 1; have z5 := S8.out.s.k.frz 2; clear hi8 hv8)
    have S9 := Lib.hid (((S8.out.set 0 (.bool gA)).set 1 (.slice aA kA cA)).set 2 (.slice aB kB cB))
    generalize ((w8.setCell ⟨x9, 0, none⟩ (.bool gA)).setCell ⟨x9, 1, none⟩ (.slice aA kA cA)).setCell ⟨x9, 2, none⟩ (.slice aB kB cB) = wq at *
    have u0 : wq.cell? ⟨x9, 0, none⟩ = some (.bool gA) := S9.out.s.k.cell 0
    have u1 : wq.cell? ⟨x9, 1, none⟩ = some (.slice aA kA cA) := S9.out.s.k.cell 1
    have u2 : wq.cell? ⟨x9, 2, none⟩ = some (.slice aB kB cB) := S9.out.s.k.cell 2
    obtain ⟨t0, t1, t2, t3, t4, t5⟩ := S9.out.r.facts
    clear z0 z1 z2 z3 z4 z5 y0 y1 y2
    go_wp2
    have hIZ := Lib.hid (((S9.out.r.inv.setCell S9.out.r.l S9.out.r.f (off := 0) (Value.bool gA)).setCell S9.out.r.l S9.out.r.f (off := 1) (Value.slice aA kA cA)).setCell S9.out.r.l S9.out.r.f (off := 2) (Value.slice aB kB cB))
    have hBZ := Lib.hid (((S9.out.r.k.set 0 (Value.bool gA)).set 1 (Value.slice aA kA cA)).set 2 (Value.slice aB kB cB))
    have e0 : _ = some (Value.bool gA) := hBZ.out.cell 0
    have e1 : _ = some (Value.slice aA kA cA) := hBZ.out.cell 1
    have e2 : _ = some (Value.slice aB kB cB) := hBZ.out.cell 2
    (try simp only [Exit.inBlock, Exit.then])
    refine bodyPost_ret (v := .agg #[(Value.bool gA), (Value.slice aA kA cA), (Value.slice aB kB cB)]) (by simp [results, Tryz.results111, go_sem, e0, e1, e2]) rfl ?_
    exact ⟨_, φ8, rfl, hIZ.out, V8.out⟩
   ·have hk40i : ¬ (k9 : Int) < 40 := by omega
    obtain ⟨t0, t1, t2, t3, t4, t5⟩ := HS.out.r.facts
    go_wp2
    have hIZ := Lib.hid (((HS.out.r.inv.setCell HS.out.r.l HS.out.r.f (off := 0) (Value.bool g8)).setCell HS.out.r.l HS.out.r.f (off := 1) (Value.slice a8 k8 c8)).setCell HS.out.r.l HS.out.r.f (off := 2) (Value.slice a9 k9 c9))
    have hBZ := Lib.hid (((HS.out.r.k.set 0 (Value.bool g8)).set 1 (Value.slice a8 k8 c8)).set 2 (Value.slice a9 k9 c9))
    have e0 : _ = some (Value.bool g8) := hBZ.out.cell 0
    have e1 : _ = some (Value.slice a8 k8 c8) := hBZ.out.cell 1
    have e2 : _ = some (Value.slice a9 k9 c9) := hBZ.out.cell 2
    (try simp only [Exit.inBlock, Exit.then])
    refine bodyPost_ret (v := .agg #[(Value.bool g8), (Value.slice a8 k8 c8), (Value.slice a9 k9 c9)]) (by simp [results, Tryz.results111, go_sem, e0, e1, e2]) rfl ?_
    exact ⟨_, φ3, rfl, hIZ.out, HV.out⟩
end Go.Proofs.YtmlpjffnmkndoaaGreatDoor

namespace Go.Proofs.YtmlpjffnmkndoaaGreatDoor
open Go.RowKit
set_option linter.unusedVariables false
set_option linter.unusedSimpArgs false
set_option maxRecDepth 100000 in
set_option maxHeartbeats 2000000 in
theorem SumOf_any {M : Nat} (hD : Hid (DivOk M)) (hM : LenB M) {N D : Nat} (hD1 : 1 ≤ D) {n : Nat} (hM1 : n * N * D ^ n ≤ M) (hM2 : D ^ n ≤ M) {a : Option Addr} {cap : Nat} {xs : List Rat} {w : World} {φ : Phi} (hφ : Fz φ w) (sl : SlV φ a cap (xs.map (Fx.mk (N := N) (D := D)))) (hn : Hid (xs.length = n)) {S : Rat} (hS : Hid (sumQ xs = S)) :
  Calls Tryz.prog 59 #[.slice a n cap] w (FfXP S (n * N * D ^ n) (D ^ n) φ w) := by
 have hRS := Lib.hid (RsSt.start (Inv.start hφ) #[.bool false, .slice none 0 0, .slice none 0 0] 70)
 by_cases hn0 : n = 0
 ·subst hn0
  have e : xs = [] := List.eq_nil_of_length_eq_zero hn.out
  have hS0 : Hid (S = 0) := Lib.hid (by rw [← hS.out, e]; rfl)
  have e1 : 0 * N * D ^ 0 = 0 := by simp
  have e2 : D ^ 0 = 1 := rfl
  rw [e1, e2, hS0.out]
  have hC := Lib.hid (fun W (hf : Fz φ W) => FracInt_any (n := 0) (by decide) (by decide) hf)
  rw [show ((0 : Int) : Rat) = 0 from rfl, show (0 : Int).natAbs = 0 from rfl] at hC
  clear hφ hM1 hM2 e e1 e2 hS hS0 sl
  go_enter Tryz.func59, Tryz.ntmps59
  go_wp2_with (go_at_call 89; (with_reducible refine (hC.out _ hRS.out.inv.fz).mono ?_); rintro e w8 ⟨v8, φ8, rfl, hi8, hv8⟩; obtain ⟨gA, nA, mA, kA, kB, aA, cA, aB, cB, rfl, _⟩ := hv8.open; have S8 := Lib.hid (hRS.out.call hi8); have V8 := Lib.hid hv8; obtain ⟨t0, t1, t2, t3, t4, t5⟩ := S8.out.facts; clear hi8 hv8)
  have hIZ := Lib.hid (((S8.out.inv.setCell S8.out.l S8.out.f (off := 0) (Value.bool gA)).setCell S8.out.l S8.out.f (off := 1) (Value.slice aA kA cA)).setCell S8.out.l S8.out.f (off := 2) (Value.slice aB kB cB))
  have hBZ := Lib.hid (((S8.out.k.set 0 (Value.bool gA)).set 1 (Value.slice aA kA cA)).set 2 (Value.slice aB kB cB))
  have e0 : _ = some (Value.bool gA) := hBZ.out.cell 0
  have e1 : _ = some (Value.slice aA kA cA) := hBZ.out.cell 1
  have e2 : _ = some (Value.slice aB kB cB) := hBZ.out.cell 2
  (try simp only [Exit.inBlock, Exit.then])
  refine bodyPost_ret (v := .agg #[(Value.bool gA), (Value.slice aA kA cA), (Value.slice aB kB cB)]) (by simp [results, Tryz.results59, go_sem, e0, e1, e2]) rfl ?_
  exact ⟨_, φ8, rfl, hIZ.out, V8.out⟩
 ·have hn0i : ((n : Int) == 0) = false := by simp; omega
  have hn0j : ¬ (n : Int) = 0 := by omega
  have hC := Lib.hid (fun W (hf : Fz φ W) => sumOf_any hD hM hD1 n (Nat.le_refl n) (by omega) hM1 hM2 hf sl hn hS)
  generalize n * N * D ^ n = NB at *
  generalize D ^ n = DB at *
  have HMM := Lib.hid (And.intro hM1 hM2)
  clear hφ hM1 hM2
  go_enter Tryz.func59, Tryz.ntmps59
  go_wp2_with (first
   | (go_at_call 111; (with_reducible refine (hC.out _ hRS.out.inv.fz).mono ?_); rintro e w7 ⟨v7, φ7, rfl, hi7, hv7⟩; have S7 := Lib.hid (hRS.out.call hi7); have V7 := Lib.hid hv7; clear hi7 hv7)
   | (go_at_call 110; (with_reducible refine (lowest_X hD S7.out.inv.fz V7.out HMM.out.1 HMM.out.2).mono ?_); rintro e w8 ⟨v8, φ8, rfl, hi8, hv8⟩; obtain ⟨gA, nA, mA, kA, kB, aA, cA, aB, cB, rfl, _⟩ := hv8.open; have S8 := Lib.hid (S7.out.call hi8); have V8 := Lib.hid hv8; obtain ⟨t0, t1, t2, t3, t4, t5⟩ := S8.out.facts; clear hi8 hv8))
  have hIZ := Lib.hid (((S8.out.inv.setCell S8.out.l S8.out.f (off := 0) (Value.bool gA)).setCell S8.out.l S8.out.f (off := 1) (Value.slice aA kA cA)).setCell S8.out.l S8.out.f (off := 2) (Value.slice aB kB cB))
  have hBZ := Lib.hid (((S8.out.k.set 0 (Value.bool gA)).set 1 (Value.slice aA kA cA)).set 2 (Value.slice aB kB cB))
  have e0 : _ = some (Value.bool gA) := hBZ.out.cell 0
  have e1 : _ = some (Value.slice aA kA cA) := hBZ.out.cell 1
  have e2 : _ = some (Value.slice aB kB cB) := hBZ.out.cell 2
  (try simp only [Exit.inBlock, Exit.then])
  refine bodyPost_ret (v := .agg #[(Value.bool gA), (Value.slice aA kA cA), (Value.slice aB kB cB)]) (by simp [results, Tryz.results59, go_sem, e0, e1, e2]) rfl ?_
  exact ⟨_, φ8, rfl, hIZ.out, V8.out⟩
end Go.Proofs.YtmlpjffnmkndoaaGreatDoor

namespace Go.Proofs.YtmlpjffnmkndoaaGreatDoor
open Go.RowKit
set_option linter.unusedVariables false
set_option linter.unusedSimpArgs false
end Go.Proofs.YtmlpjffnmkndoaaGreatDoor
