/- Lists of the reference's exact numbers; the walk of the reference's weights. The walk of the reference's shut. Conditions: the library's table of powers of ten reads as it was laid. The walk of the reference's sum. Conditions: none beyond what the claim form gives. -/
import Derived.Test.YtmlpjffnmkndoaaGreatDoorJA
import Derived.Test.YtmlpjffnmkndoaaGreatDoorJ3
import Derived.Test.YtmlpjffnmkndoaaGreatDoorJZ
namespace Go.Proofs.YtmlpjffnmkndoaaGreatDoor
open Go.RowKit
set_option linter.unusedVariables false
set_option linter.unusedSimpArgs false
/-- An exact number of the reference's, with its bounds. -/
structure Rx (N D : Nat) where
 x : Rat
instance repRx (N D : Nat) : Rep (Rx N D) where
 size := 3
 rep := fun φ x cs => ∃ (g : Bool) (a1 : Option Addr) (k1 c1 : Nat) (a2 : Option Addr) (k2 c2 : Nat), cs = [.bool g, .slice a1 k1 c1, .slice a2 k2 c2] ∧ FrX φ (.agg #[.bool g, .slice a1 k1 c1, .slice a2 k2 c2]) x.x N D
 len := by rintro _ _ _ ⟨g, a1, k1, c1, a2, k2, c2, rfl, _⟩; rfl
 mono := by rintro _ _ _ _ hl ⟨g, a1, k1, c1, a2, k2, c2, rfl, h⟩; exact ⟨g, a1, k1, c1, a2, k2, c2, rfl, h.mono hl⟩
 one := by
  rintro _ _ _ ⟨g, a1, k1, c1, a2, k2, c2, rfl, _⟩ u hu
  simp at hu
  rcases hu with rfl | rfl | rfl <;> rfl
theorem FrX.le {φ : Phi} {v : Value} {x : Rat} {N D N' D' : Nat} (h : FrX φ v x N D) (h1 : N ≤ N') (h2 : D ≤ D') : FrX φ v x N' D' := by
 obtain ⟨neg, n, d, a1, c1, a2, c2, e, s1, s2, hd, hn, hD, hx⟩ := h
 exact ⟨neg, n, d, a1, c1, a2, c2, e, s1, s2, hd, Nat.le_trans hn h1, Nat.le_trans hD h2, hx⟩
/-- A value as its parts. -/
theorem FrX.rx {φ : Phi} {v : Value} {x : Rat} {N D : Nat} (h : FrX φ v x N D) : ∃ (g : Bool) (a1 : Option Addr) (k1 c1 : Nat) (a2 : Option Addr) (k2 c2 : Nat), v = .agg #[.bool g, .slice a1 k1 c1, .slice a2 k2 c2] ∧ Rep.rep φ (⟨x⟩ : Rx N D) [.bool g, .slice a1 k1 c1, .slice a2 k2 c2] := by
 obtain ⟨g, n, d, k1, k2, a1, c1, a2, c2, rfl, _⟩ := h.open
 exact ⟨g, a1, k1, c1, a2, k2, c2, rfl, g, a1, k1, c1, a2, k2, c2, rfl, h⟩
/-- An element of a list of exact numbers. -/
theorem SlV.rxD {φ : Phi} {a : Option Addr} {cap N D : Nat} {xs : List (Rx N D)} (h : SlV φ a cap xs) {n : Nat} (hn : Hid (xs.length = n)) {k : Nat} (hk : k < n) :
  ∃ b off, a = some ⟨b, off, none⟩ ∧ ∀ k, k < n → ∃ g a1 k1 c1 a2 k2 c2, FrX φ (.agg #[.bool g, .slice a1 k1 c1, .slice a2 k2 c2]) (xs.getD k ⟨0⟩).x N D ∧ ∀ w, Fz φ w → w.cell? ⟨b, off + k * 3, none⟩ = some (.bool g) ∧ w.cell? ⟨b, off + k * 3 + 1, none⟩ = some (.slice a1 k1 c1) ∧ w.cell? ⟨b, off + k * 3 + 2, none⟩ = some (.slice a2 k2 c2) := by
 obtain ⟨b, off, ha, hc⟩ := h.cellsD ⟨0⟩ hn hk
 refine ⟨b, off, ha, fun k hk => ?_⟩
 obtain ⟨cs, ⟨g, a1, k1, c1, a2, k2, c2, rfl, hx⟩, hj⟩ := hc k hk
 refine ⟨g, a1, k1, c1, a2, k2, c2, hx, fun w hw => ?_⟩
 have j0 := hj 0 (by simp)
 have j1 := hj 1 (by simp)
 have j2 := hj 2 (by simp)
 simp [Rep.size] at j0 j1 j2
 exact ⟨hw.cell j0, hw.cell j1, hw.cell j2⟩
theorem slRx (N D : Nat) : SliceTy Tryz.prog 93 36 (.agg #[.bool false, .slice none 0 0, .slice none 0 0]) (Rep.size (Rx N D)) 56 := ⟨Tryz.underlying93, by kernel_rfl, rfl, (show 0 < 3 by decide), by decide⟩
/-- A call's own slice, while what is frozen grows. -/
structure OwR {α : Type} [Rep α] (w0 : World) (φ0 φ : Phi) (E : TypeId) (ao : Option Addr) (co : Nat) (out : List α) (wr : World) : Prop where
 inv : Inv w0.heap.size w0 φ0 φ wr
 own : Own w0.heap.size φ wr E ao co out
section
variable {α : Type} [Rep α] {w0 wr w' : World} {φ0 φ φ' : Phi} {E : TypeId} {ao : Option Addr} {co : Nat} {out : List α}
theorem OwR.call (h : OwR w0 φ0 φ E ao co out wr) (hi : Inv wr.heap.size wr φ φ' w') : OwR w0 φ0 φ' E ao co out w' := ⟨h.inv.call hi, h.own.call hi⟩
theorem OwR.callB (h : OwR w0 φ0 φ E ao co out wr) (hb : Below wr.heap.size wr w') : OwR w0 φ0 φ E ao co out w' := ⟨h.inv.callB hb, h.own.callB hb⟩
theorem OwR.alloc (h : OwR w0 φ0 φ E ao co out wr) (o : Obj) : OwR w0 φ0 φ E ao co out (wr.alloc o) := ⟨h.inv.alloc o, h.own.alloc o⟩
end
abbrev rxW (p : Psn) : Rx 1000000000000 1000000000000 := ⟨ratX p.1.1 p.1.2⟩
end Go.Proofs.YtmlpjffnmkndoaaGreatDoor

namespace Go.Proofs.YtmlpjffnmkndoaaGreatDoor
open Go.RowKit
set_option linter.unusedVariables false
set_option linter.unusedSimpArgs false
theorem rx_getD (N D : Nat) (xs : List Rat) (k : Nat) : ((xs.map (Rx.mk (N := N) (D := D))).getD k ⟨0⟩).x = xs.getD k 0 := by
 simp only [List.getD_eq_getElem?_getD, List.getElem?_map]
 cases xs[k]? <;> rfl
set_option maxRecDepth 100000 in
set_option maxHeartbeats 2000000 in
theorem Rshut_any {M : Nat} (hD : Hid (RdivOk M)) (hM : LenB M) {N D : Nat} (hN : N ≤ M) (hDM : D ≤ M) {n : Nat} {a : Option Addr} {cap : Nat} {xs : List Rat} {w : World} {φ : Phi} (hφ : Fz φ w) (hp : PowP φ) (sl : SlV φ a cap (xs.map (Rx.mk (N := N) (D := D)))) (hn : Hid (xs.length = n)) (hn3 : n ≤ 3000) {L : List Rti} {F : Int} (hR : Hid (shtR xs = (L, F))) :
  Calls Tryz.prog 54 #[.slice a n cap] w (SlPost (L, F) φ w) := by
 have HP := Lib.hid hp
 have hnm : Hid ((xs.map (Rx.mk (N := N) (D := D))).length = n) := Lib.hid (by rw [List.length_map, hn.out])
 have hnl : n ≤ 9223372036854775807 := by have := sl.capn; have := sl.capm; rw [hnm.out] at *; unfold maxLen at *; omega
 have hnl2 : n ≤ maxLen := by have h1 := sl.capn; have h2 := sl.capm; rw [hnm.out] at h1; omega
 have hS0 : Hid (OwSt w φ 32 none 0 ([] : List Rti) w) := Lib.hid ⟨Inv.start hφ, Own.nil _ _ _ _⟩
 clear hp hφ
 go_enter Tryz.func54, Tryz.ntmps54
 go_wp2
 go_loopw [4, 11] (fun ov iv wr => ∃ (k : Nat) (ao : Option Addr) (co : Nat) (os : List Rti), k ≤ n ∧ iv = .int .i64 (k : Int) ∧ ov = .slice ao k co ∧ Hid (os.length = k) ∧ Hid (os = (xs.take k).map shtT) ∧ Hid (∀ i, i < k → shtF (xs.getD i 0) = 0) ∧ Hid (OwSt w φ 32 ao co os wr)) (fun _ iv _ => n - (intOf iv).toNat)
 case atStart => exact ⟨0, none, 0, [], Nat.zero_le _, rfl, rfl, Lib.hid rfl, Lib.hid rfl, none_yet _, hS0⟩
 case round =>
  clear hS0
  obtain ⟨k, ao, co, os, hk, rfl, rfl, hol, hos, hok, hS⟩ := hrel
  by_cases hlt : k < n
  ·have hlti : (k : Int) < (n : Int) := by omega
   obtain ⟨b, off, rfl, f⟩ := sl.rxD hnm hlt
   obtain ⟨g, a1, k1, c1, a2, k2, c2, hx, f2⟩ := f k hlt
   obtain ⟨d0, d1, d2⟩ := f2 wr hS.out.inv.fz
   rw [rx_getD] at hx
   obtain ⟨x, hxe⟩ : ∃ x, Hid (xs.getD k 0 = x) := ⟨_, Lib.hid rfl⟩
   rw [hxe.out] at hx
   have HX := Lib.hid hx
   obtain ⟨S, hS'⟩ : ∃ S, (ratR x).1 = S := ⟨_, rfl⟩
   obtain ⟨T, hT'⟩ : ∃ S, (ratR x).2.1 = S := ⟨_, rfl⟩
   obtain ⟨G, hG'⟩ : ∃ S, (ratR x).2.2 = S := ⟨_, rfl⟩
   have hRR : Hid (ratR x = (S, T, G)) := Lib.hid (by rw [← hS', ← hT', ← hG'])
   have hnx : Hid (os ++ [(S, T)] = (xs.take (k + 1)).map shtT) := Lib.hid (by
    rw [take_snocD 0 xs k n hn.out hlt, List.map_append, ← hos.out, hxe.out, List.map_singleton]
    show _ = os ++ [((ratR x).1, (ratR x).2.1)]
    rw [hS', hT'])
   have hFG : Hid (shtF (xs.getD k 0) = G) := Lib.hid (by rw [hxe.out]; exact hG')
   have hS1 := Lib.hid (hS.out.callB ((Below.refl _ _).alloc (Nat.le_refl _) (.cells #[.bool g, .slice a1 k1 c1, .slice a2 k2 c2] 36)))
   clear f f2 hx hS' hT' hG' hS
   by_cases hg0 : G = 0
   ·subst hg0
    have hok2 := next_ok hok hFG.out
    go_upto_region 8 with (go_at_call 75; (with_reducible refine (RRatio_any hD hM hS1.out.inv.fz HP.out HX.out hN hDM hRR).mono ?_); rintro e w4 ⟨rfl, hb4⟩; have hS4 := Lib.hid ((hS1.out.callB hb4).callB ((Below.refl _ _).alloc (Nat.le_refl _) (.cells #[.string S, .string T] 32))); have KB := Lib.hid (Blk.new w4 #[.string S, .string T] 32); clear hb4)
    generalize w4.alloc (.cells #[.string S, .string T] 32) = wb at *
    generalize w4.heap.size = g9 at *
    have r0 : wb.cell? ⟨g9, 0, none⟩ = some (.string S) := KB.out.cell 0
    have r1 : wb.cell? ⟨g9, 1, none⟩ = some (.string T) := KB.out.cell 1
    have hin := Lib.hid hS4.out.inv
    have hon := Lib.hid hS4.out.own
    clear KB d0 d1 d2
    go_wp2_with (at_builtin; (refine wpList_app1F (α := Rti) rfl _ _ 24 rfl slRti hin.out ao co os hon.out #[.string S, .string T] 32 (S, T) ⟨[.string S], [.string T], rfl, rfl, rfl⟩ (by rw [hol.out]; rfl) 1 rfl (by rw [hol.out]; omega) ?_; intro a9 c9 w9 hi9 ho9 hg9 hf9; rw [show (os ++ [(S, T)]).length = k + 1 from by rw [List.length_append, hol.out]; rfl]))
    go_roundw
    case rel => exact ⟨k + 1, a9, c9, os ++ [(S, T)], by omega, by go_num, rfl, Lib.hid (by rw [List.length_append, hol.out]; rfl), hnx, hok2, Lib.hid ⟨hi9, ho9⟩⟩
    case measure => (simp [intOf] <;> omega)
   ·have hE : Hid (([], G) = (L, F)) := Lib.hid (by
     rw [← hR.out]
     exact (shtR_err hn.out hlt hok.out hFG.out hg0).symm)
    have h0i : (G == 0) = false := by simp [hg0]
    have h0j : (G != 0) = true := by simp [hg0]
    clear hg0
    go_wp2_with (go_at_call 75; (with_reducible refine (RRatio_any hD hM hS1.out.inv.fz HP.out HX.out hN hDM hRR).mono ?_); rintro e w4 ⟨rfl, hb4⟩; have hS4 := Lib.hid ((hS1.out.callB hb4).callB ((Below.refl _ _).alloc (Nat.le_refl _) (.cells #[.string S, .string T] 32))); clear hb4)
    go_ret2
    have := hE.out
    injection this with e1 e2
    subst e1 e2
    exact ⟨none, 0, φ, rfl, hS4.out.inv, SlV.empty φ⟩
  ·obtain rfl : k = n := by omega
   have hE : Hid ((os, 0) = (L, F)) := Lib.hid (by
    rw [← hR.out, shtR_ok hn.out hok.out, hos.out, List.take_of_length_le (by rw [hn.out]; exact Nat.le_refl _)])
   obtain ⟨φ', _, hi', hs', _⟩ := hS.out.own.release hS.out.inv
   have HS' := Lib.hid hs'
   have HI' := Lib.hid hi'
   clear hi' hs' hS hos hok
   go_wp2
   go_ret2
   have := hE.out
   injection this with e1 e2
   subst e1 e2
   exact ⟨ao, co, φ', (by rw [hol.out]; rfl), HI'.out, HS'.out⟩
end Go.Proofs.YtmlpjffnmkndoaaGreatDoor

namespace Go.Proofs.YtmlpjffnmkndoaaGreatDoor
open Go.RowKit
set_option linter.unusedVariables false
set_option linter.unusedSimpArgs false
set_option maxRecDepth 100000 in
set_option maxHeartbeats 2000000 in
theorem Rsum_any {M : Nat} (hD : Hid (RdivOk M)) (hM : LenB M) {N D : Nat} (hD1 : 1 ≤ D) {n : Nat} (hM1 : n * N * D ^ n ≤ M) (hM2 : D ^ n ≤ M) {a : Option Addr} {cap : Nat} {xs : List Rat} {w : World} {φ : Phi} (hφ : Fz φ w) (sl : SlV φ a cap (xs.map (Rx.mk (N := N) (D := D)))) (hn : Hid (xs.length = n)) {S : Rat} (hS : Hid (sumQ xs = S)) :
  Calls Tryz.prog 62 #[.slice a n cap] w (FrXP S (n * N * D ^ n) (D ^ n) φ w) := by
 have hnm : Hid ((xs.map (Rx.mk (N := N) (D := D))).length = n) := Lib.hid (by rw [List.length_map, hn.out])
 have hnl : n ≤ 9223372036854775807 := by have := sl.capn; have := sl.capm; rw [hnm.out] at *; unfold maxLen at *; omega
 obtain ⟨NB, hNB⟩ : ∃ x, Hid (n * N * D ^ n = x) := ⟨_, Lib.hid rfl⟩
 obtain ⟨DB, hDB⟩ : ∃ x, Hid (D ^ n = x) := ⟨_, Lib.hid rfl⟩
 have hbd : Hid (∀ k, k < n → k * N * D ^ k * D + N * D ^ k ≤ M ∧ D ^ k * D ≤ M ∧ k * N * D ^ k * D + N * D ^ k ≤ (k + 1) * N * D ^ (k + 1) ∧ D ^ k * D = D ^ (k + 1)) := Lib.hid (fun k hk =>
  ⟨Nat.le_trans (sumB_step hD1) (Nat.le_trans (sumB_mono hD1 hk) hM1), by rw [← Nat.pow_succ]; exact Nat.le_trans (powB_mono hD1 hk) hM2, sumB_step hD1, (Nat.pow_succ ..).symm⟩)
 have h00 : Hid ((0 : Nat) * N * D ^ 0 = 0 ∧ D ^ 0 = 1 ∧ sumQ (xs.take 0) = 0) := Lib.hid ⟨by simp, by simp, rfl⟩
 have hRS := Lib.hid (RsSt.start (Inv.start hφ) #[.bool false, .slice none 0 0, .slice none 0 0] 36)
 have hstep := Lib.hid (fun k (hk : k < n) => sumQ_step hn.out hk)
 have hall : Hid (xs.take n = xs) := Lib.hid (by rw [List.take_of_length_le]; rw [hn.out]; exact Nat.le_refl _)
 have hC0 := Lib.hid (fun (ψ : Phi) W (hf : Fz ψ W) => RWhole_any (n := 0) (by decide) (by decide) hf)
 rw [show ((0 : Int) : Rat) = 0 from rfl, show (0 : Int).natAbs = 0 from rfl] at hC0
 rw [hNB.out, hDB.out]
 clear hφ hM1 hM2
 go_enter Tryz.func62, Tryz.ntmps62
 go_upto_region 1 with fail
 generalize w.alloc (.cells #[.bool false, .slice none 0 0, .slice none 0 0] 36) = wx at *
 obtain ⟨b2, hb2⟩ : ∃ b, w.heap.size = b := ⟨_, rfl⟩
 rw [hb2] at hRS ⊢
 have HB2 := Lib.hid hb2
 clear hb2
 go_upto_region 2 with (go_at_call 37; (with_reducible refine (hC0.out φ _ hRS.out.inv.fz).mono ?_); rintro e w4 ⟨v4, φ4, rfl, hi4, hv4⟩; obtain ⟨g4, n4, m4, k4, k5, a4, c4, a5, c5, rfl, _⟩ := hv4.open; have hR4 := hRS.out.call hi4; have hS4 := Lib.hid (SmS.mk (hR4.callB ((Below.refl _ _).alloc (Nat.le_refl _) (.cells #[.bool g4, .slice a4 k4 c4, .slice a5 k5 c5] 36))) (RsSt.start hR4.inv #[.bool g4, .slice a4 k4 c4, .slice a5 k5 c5] 36) (by have := hR4.k.lt; omega)); have HV4 := Lib.hid hv4; clear hi4 hv4 hR4)
 generalize w4.alloc (.cells #[.bool g4, .slice a4 k4 c4, .slice a5 k5 c5] 36) = wb at *
 generalize w4.heap.size = b3 at *
 clear hRS hC0
 go_wp2
 go_loopw [9] (fun iv wr => ∃ (k : Nat) (φ' : Phi) (g : Bool) (a1 : Option Addr) (k1 c1 : Nat) (a2 : Option Addr) (k2 c2 : Nat), k ≤ n ∧ iv = .int .i64 (k : Int) ∧ Hid (SmS 36 w φ φ' b2 b3 #[.bool g, .slice a1 k1 c1, .slice a2 k2 c2] wr) ∧ Hid (FrX φ' (.agg #[.bool g, .slice a1 k1 c1, .slice a2 k2 c2]) (sumQ (xs.take k)) (k * N * D ^ k) (D ^ k))) (fun iv _ => n - (intOf iv).toNat)
 case atStart => exact ⟨0, φ4, g4, a4, k4, c4, a5, k5, c5, Nat.zero_le _, rfl, hS4, Lib.hid (by rw [h00.out.1, h00.out.2.1, h00.out.2.2]; exact HV4.out)⟩
 case round =>
  clear hS4 HV4
  obtain ⟨k, φ', g, a1, k1, c1, a2, k2, c2, hk, rfl, hS5, hV5⟩ := hrel
  have z0 : wr.cell? ⟨b3, 0, none⟩ = some (.bool g) := hS5.out.s.k.cell 0
  have z1 : wr.cell? ⟨b3, 1, none⟩ = some (.slice a1 k1 c1) := hS5.out.s.k.cell 1
  have z2 : wr.cell? ⟨b3, 2, none⟩ = some (.slice a2 k2 c2) := hS5.out.s.k.cell 2
  by_cases hlt : k < n
  ·have hlti : (k : Int) < (n : Int) := by omega
   obtain ⟨b, off, rfl, f⟩ := sl.rxD hnm hlt
   obtain ⟨g6, a6, k6, c6, a7, k7, c7, hx, f2⟩ := f k hlt
   obtain ⟨d0, d1, d2⟩ := f2 wr (hS5.out.s.inv.fz.sub hS5.out.s.inv.le)
   rw [rx_getD] at hx
   have HX := Lib.hid (hx.mono hS5.out.s.inv.le)
   have hB4 := hbd.out k hlt
   have hst := hstep.out k hlt
   have HB4 := Lib.hid hB4
   have HST := Lib.hid hst
   have hS6 := Lib.hid (hS5.out.callB ((Below.refl _ _).alloc (Nat.le_refl _) (.cells #[.bool g6, .slice a6 k6 c6, .slice a7 k7 c7] 36)))
   have KN := Lib.hid (Blk.new wr #[.bool g6, .slice a6 k6 c6, .slice a7 k7 c7] 36)
   clear f f2 hx hB4 hst z0 z1 z2
   go_upto_region 5 with fail
   generalize wr.alloc (.cells #[.bool g6, .slice a6 k6 c6, .slice a7 k7 c7] 36) = wa at *
   generalize wr.heap.size = b5 at *
   have z0 : wa.cell? ⟨b3, 0, none⟩ = some (.bool g) := hS6.out.s.k.cell 0
   have z1 : wa.cell? ⟨b3, 1, none⟩ = some (.slice a1 k1 c1) := hS6.out.s.k.cell 1
   have z2 : wa.cell? ⟨b3, 2, none⟩ = some (.slice a2 k2 c2) := hS6.out.s.k.cell 2
   have u0 : wa.cell? ⟨b5, 0, none⟩ = some (.bool g6) := KN.out.cell 0
   have u1 : wa.cell? ⟨b5, 1, none⟩ = some (.slice a6 k6 c6) := KN.out.cell 1
   have u2 : wa.cell? ⟨b5, 2, none⟩ = some (.slice a7 k7 c7) := KN.out.cell 2
   clear d0 d1 d2
   go_wp2_with (go_at_call 38; (with_reducible refine (RPlus_any hD hM hS6.out.s.inv.fz hV5.out HX.out HB4.out.1 HB4.out.2.1).mono ?_); rintro e w8 ⟨v8, φ8, rfl, hi8, hv8⟩; obtain ⟨g8, n8, m8, k8, k9, a8, c8, a9, c9, rfl, _⟩ := hv8.open; have hS8 := Lib.hid (hS6.out.call hi8); have HV8 := Lib.hid ((hv8.le HB4.out.2.2.1 (Nat.le_of_eq HB4.out.2.2.2))); have y0 : w8.cell? ⟨b3, 0, none⟩ = some (.bool g) := hS8.out.s.k.cell 0; have y1 : w8.cell? ⟨b3, 1, none⟩ = some (.slice a1 k1 c1) := hS8.out.s.k.cell 1; have y2 : w8.cell? ⟨b3, 2, none⟩ = some (.slice a2 k2 c2) := hS8.out.s.k.cell 2; have y3 := hS8.out.s.k.frz 0; have y4 := hS8.out.s.k.frz 1; have y5 := hS8.out.s.k.frz 2; clear hi8 hv8)
   go_roundw
   case rel =>
    refine ⟨k + 1, φ8, g8, a8, k8, c8, a9, k9, c9, by omega, by go_num, Lib.hid (((hS8.out.set 0 (.bool g8)).set 1 (.slice a8 k8 c8)).set 2 (.slice a9 k9 c9)), ?_⟩
    rw [HST.out]
    exact HV8
   case measure => (simp [intOf] <;> omega)
  ·obtain rfl : k = n := by omega
   obtain ⟨y0, y1, y2, y3, y4, y5⟩ := hS5.out.r.facts
   rw [hall.out, hS.out, hNB.out, hDB.out] at hV5
   go_wp2
   have hIZ := Lib.hid (((hS5.out.r.inv.setCell hS5.out.r.l hS5.out.r.f (off := 0) (Value.bool g)).setCell hS5.out.r.l hS5.out.r.f (off := 1) (Value.slice a1 k1 c1)).setCell hS5.out.r.l hS5.out.r.f (off := 2) (Value.slice a2 k2 c2))
   have hBZ := Lib.hid (((hS5.out.r.k.set 0 (Value.bool g)).set 1 (Value.slice a1 k1 c1)).set 2 (Value.slice a2 k2 c2))
   have e0 : _ = some (Value.bool g) := hBZ.out.cell 0
   have e1 : _ = some (Value.slice a1 k1 c1) := hBZ.out.cell 1
   have e2 : _ = some (Value.slice a2 k2 c2) := hBZ.out.cell 2
   (try simp only [Exit.inBlock, Exit.then])
   refine bodyPost_ret (v := .agg #[(Value.bool g), (Value.slice a1 k1 c1), (Value.slice a2 k2 c2)]) (by simp [results, Tryz.results62, go_sem, e0, e1, e2]) rfl ?_
   exact ⟨_, φ', rfl, hIZ.out, hV5.out⟩
end Go.Proofs.YtmlpjffnmkndoaaGreatDoor
