/- The plain law of people with weights; people in memory. The walks of the program's peopleFault and what it calls. Lists of the program's exact numbers; the walk of the program's weights. Conditions: none beyond what the claim form gives. -/
import Derived.Test.YtmlpjffnmkndoaaGreatDoorJ2
namespace Go.Proofs.YtmlpjffnmkndoaaGreatDoor
open Go.RowKit
set_option linter.unusedVariables false
set_option linter.unusedSimpArgs false
abbrev Psn := Rti × (List Int × (Int × (Int × Int)))
def psn0 : Psn := (rti0, [], 0, 0, 0)
theorem SlV.psnsD {φ : Phi} {a : Option Addr} {cap : Nat} {xs : List Psn} (h : SlV φ a cap xs) {k n : Nat} (hn : Hid (xs.length = n)) (hk : k < n) :
  ∃ b off, a = some ⟨b, off, none⟩ ∧ ∀ k, k < n → ∃ ar cr, SlV φ ar cr (xs.getD k psn0).2.1 ∧ ∀ w, Fz φ w → w.cell? ⟨b, off + k * 6, none⟩ = some (.string (xs.getD k psn0).1.1) ∧ w.cell? ⟨b, off + k * 6 + 1, none⟩ = some (.string (xs.getD k psn0).1.2) ∧ w.cell? ⟨b, off + k * 6 + 2, none⟩ = some (.slice ar (xs.getD k psn0).2.1.length cr) ∧ w.cell? ⟨b, off + k * 6 + 3, none⟩ = some (.int .i64 (xs.getD k psn0).2.2.1) ∧ w.cell? ⟨b, off + k * 6 + 4, none⟩ = some (.int .i64 (xs.getD k psn0).2.2.2.1) ∧ w.cell? ⟨b, off + k * 6 + 5, none⟩ = some (.int .i64 (xs.getD k psn0).2.2.2.2) := by
 obtain ⟨b, off, ha, hc⟩ := h.cellsD psn0 hn hk
 refine ⟨b, off, ha, fun k hk => ?_⟩
 obtain ⟨cs, ⟨c, d, rfl, ⟨c1, c2, rfl, h1, h2⟩, d1, d2, rfl, ⟨ar, cr, rfl, hr⟩, d3, d4, rfl, h3, d5, d6, rfl, h4, h5⟩, hj⟩ := hc k hk
 cases h1
 cases h2
 cases h3
 cases h4
 cases h5
 refine ⟨ar, cr, hr, fun w hw => ?_⟩
 have j0 := hj 0 (by simp)
 have j1 := hj 1 (by simp)
 have j2 := hj 2 (by simp)
 have j3 := hj 3 (by simp)
 have j4 := hj 4 (by simp)
 have j5 := hj 5 (by simp)
 simp [Rep.size] at j0 j1 j2 j3 j4 j5
 exact ⟨hw.cell j0, hw.cell j1, hw.cell j2, hw.cell j3, hw.cell j4, hw.cell j5⟩
/-- The error of a weight. -/
noncomputable def wgtF (r : Rti) : Int := if shoF r.1 r.2 ≠ 0 then shoF r.1 r.2 else if ratX r.1 r.2 ≤ 0 then 1 else 0
def numF (x y z : Int) : Int := if outB x 0 200 || outB y 0 200 || outB z 0 200 then 1 else 0
def PsnG (p : Psn) : Prop := p.1.1.size ≤ 9223372036854775807 ∧ p.1.2.size ≤ 9223372036854775807
end Go.Proofs.YtmlpjffnmkndoaaGreatDoor

namespace Go.Proofs.YtmlpjffnmkndoaaGreatDoor
open Go.RowKit
set_option linter.unusedVariables false
set_option linter.unusedSimpArgs false
theorem outW (n lo hi : Int) (w : World) {b : Bool} (hb : Hid (outB n lo hi = b)) :
  Calls Tryz.prog 29 #[.int .i64 n, .int .i64 lo, .int .i64 hi] w fun e w' => e = .returned (.bool b) ∧ w = w' := by
 obtain ⟨hb⟩ : Nonempty (Hid (outB n lo hi = b)) := ⟨hb⟩
 by_cases h1 : n < lo
 ·have hq : Hid (b = true) := Lib.hid (by rw [← hb.out]; simp [outB, h1])
  clear hb
  go_enter Tryz.func29, Tryz.ntmps29
  go_wp2
  go_ret
  exact ⟨ret_bool hq.out.symm, rfl⟩
 ·have hq : Hid (b = decide (hi < n)) := Lib.hid (by rw [← hb.out]; simp [outB, h1])
  clear hb
  go_enter Tryz.func29, Tryz.ntmps29
  go_wp2
  go_ret
  exact ⟨ret_bool (by rw [hq.out]), rfl⟩
end Go.Proofs.YtmlpjffnmkndoaaGreatDoor

namespace Go.Proofs.YtmlpjffnmkndoaaGreatDoor
open Go.RowKit
set_option linter.unusedVariables false
set_option linter.unusedSimpArgs false
/-- An exact number of the program's, with its bounds. -/
structure Fx (N D : Nat) where
 x : Rat
instance repFx (N D : Nat) : Rep (Fx N D) where
 size := 3
 rep := fun φ x cs => ∃ (g : Bool) (a1 : Option Addr) (k1 c1 : Nat) (a2 : Option Addr) (k2 c2 : Nat), cs = [.bool g, .slice a1 k1 c1, .slice a2 k2 c2] ∧ FfX φ (.agg #[.bool g, .slice a1 k1 c1, .slice a2 k2 c2]) x.x N D
 len := by rintro _ _ _ ⟨g, a1, k1, c1, a2, k2, c2, rfl, _⟩; rfl
 mono := by rintro _ _ _ _ hl ⟨g, a1, k1, c1, a2, k2, c2, rfl, h⟩; exact ⟨g, a1, k1, c1, a2, k2, c2, rfl, h.mono hl⟩
 one := by
  rintro _ _ _ ⟨g, a1, k1, c1, a2, k2, c2, rfl, _⟩ u hu
  simp at hu
  rcases hu with rfl | rfl | rfl <;> rfl
/-- A value as its parts. -/
theorem FfX.fx {φ : Phi} {v : Value} {x : Rat} {N D : Nat} (h : FfX φ v x N D) : ∃ (g : Bool) (a1 : Option Addr) (k1 c1 : Nat) (a2 : Option Addr) (k2 c2 : Nat), v = .agg #[.bool g, .slice a1 k1 c1, .slice a2 k2 c2] ∧ Rep.rep φ (⟨x⟩ : Fx N D) [.bool g, .slice a1 k1 c1, .slice a2 k2 c2] := by
 obtain ⟨g, n, d, k1, k2, a1, c1, a2, c2, rfl, _⟩ := h.open
 exact ⟨g, a1, k1, c1, a2, k2, c2, rfl, g, a1, k1, c1, a2, k2, c2, rfl, h⟩
/-- An element of a list of exact numbers. -/
theorem SlV.fxD {φ : Phi} {a : Option Addr} {cap N D : Nat} {xs : List (Fx N D)} (h : SlV φ a cap xs) {n : Nat} (hn : Hid (xs.length = n)) {k : Nat} (hk : k < n) :
  ∃ b off, a = some ⟨b, off, none⟩ ∧ ∀ k, k < n → ∃ g a1 k1 c1 a2 k2 c2, FfX φ (.agg #[.bool g, .slice a1 k1 c1, .slice a2 k2 c2]) (xs.getD k ⟨0⟩).x N D ∧ ∀ w, Fz φ w → w.cell? ⟨b, off + k * 3, none⟩ = some (.bool g) ∧ w.cell? ⟨b, off + k * 3 + 1, none⟩ = some (.slice a1 k1 c1) ∧ w.cell? ⟨b, off + k * 3 + 2, none⟩ = some (.slice a2 k2 c2) := by
 obtain ⟨b, off, ha, hc⟩ := h.cellsD ⟨0⟩ hn hk
 refine ⟨b, off, ha, fun k hk => ?_⟩
 obtain ⟨cs, ⟨g, a1, k1, c1, a2, k2, c2, rfl, hx⟩, hj⟩ := hc k hk
 refine ⟨g, a1, k1, c1, a2, k2, c2, hx, fun w hw => ?_⟩
 have j0 := hj 0 (by simp)
 have j1 := hj 1 (by simp)
 have j2 := hj 2 (by simp)
 simp [Rep.size] at j0 j1 j2
 exact ⟨hw.cell j0, hw.cell j1, hw.cell j2⟩
theorem slFx (N D : Nat) : SliceTy Tryz.prog 62 70 (.agg #[.bool false, .slice none 0 0, .slice none 0 0]) (Rep.size (Fx N D)) 56 := ⟨Tryz.underlying62, by kernel_rfl, rfl, (show 0 < 3 by decide), by decide⟩
/-- A call's own slice, while what is frozen grows. -/
structure OwG {α : Type} [Rep α] (w0 : World) (φ0 φ : Phi) (E : TypeId) (ao : Option Addr) (co : Nat) (out : List α) (wr : World) : Prop where
 inv : Inv w0.heap.size w0 φ0 φ wr
 own : Own w0.heap.size φ wr E ao co out
section
variable {α : Type} [Rep α] {w0 wr w' : World} {φ0 φ φ' : Phi} {E : TypeId} {ao : Option Addr} {co : Nat} {out : List α}
theorem OwG.call (h : OwG w0 φ0 φ E ao co out wr) (hi : Inv wr.heap.size wr φ φ' w') : OwG w0 φ0 φ' E ao co out w' := ⟨h.inv.call hi, h.own.call hi⟩
theorem OwG.callB (h : OwG w0 φ0 φ E ao co out wr) (hb : Below wr.heap.size wr w') : OwG w0 φ0 φ E ao co out w' := ⟨h.inv.callB hb, h.own.callB hb⟩
theorem OwG.alloc (h : OwG w0 φ0 φ E ao co out wr) (o : Obj) : OwG w0 φ0 φ E ao co out (wr.alloc o) := ⟨h.inv.alloc o, h.own.alloc o⟩
end
abbrev fxW (p : Psn) : Fx 1000000000000 1000000000000 := ⟨ratX p.1.1 p.1.2⟩
set_option maxRecDepth 100000 in
set_option maxHeartbeats 2000000 in
theorem weightsOf_any {M : Nat} (hD : Hid (DivOk M)) (hM2 : p10 2000 ≤ M) {n : Nat} {a : Option Addr} {cap : Nat} {l : List Psn} {w : World} {φ : Phi} (hφ : Fz φ w) (sl : SlV φ a cap l) (hn : Hid (l.length = n)) (hn3 : n ≤ 3000) (hsz : Hid (∀ p ∈ l, PsnG p)) (hok : Hid (∀ p ∈ l, shoF p.1.1 p.1.2 = 0)) :
  Calls Tryz.prog 33 #[.slice a n cap] w (SlPost1 (l.map fxW) φ w) := by
 have hS0 : Hid (OwG w φ φ 70 none 0 ([] : List (Fx 1000000000000 1000000000000)) w) := Lib.hid ⟨Inv.start hφ, Own.nil _ _ _ _⟩
 have HM2 := Lib.hid hM2
 clear hφ hM2
 go_enter Tryz.func33, Tryz.ntmps33
 go_wp2
 go_loopw [3, 8] (fun ov iv wr => ∃ (k : Nat) (ao : Option Addr) (co : Nat) (os : List (Fx 1000000000000 1000000000000)) (φ' : Phi), k ≤ n ∧ iv = .int .i64 (k : Int) ∧ ov = .slice ao k co ∧ Hid (os.length = k) ∧ Hid (os = (l.take k).map fxW) ∧ Hid (OwG w φ φ' 70 ao co os wr)) (fun _ iv _ => n - (intOf iv).toNat)
 case atStart => exact ⟨0, none, 0, [], φ, Nat.zero_le _, rfl, rfl, Lib.hid rfl, Lib.hid rfl, hS0⟩
 case round =>
  clear hS0
  obtain ⟨k, ao, co, os, φ', hk, rfl, rfl, hol, hL, hS⟩ := hrel
  by_cases hlt : k < n
  ·have hlti : (k : Int) < (n : Int) := by omega
   obtain ⟨b, off, rfl, f⟩ := sl.psnsD hn hlt
   obtain ⟨ar, cr, _, f2⟩ := f k hlt
   obtain ⟨d0, d1, d2, d3, d4, d5⟩ := f2 wr (hS.out.inv.fz.sub hS.out.inv.le)
   have hm : l.getD k psn0 ∈ l := by rw [getD_elem0 _ _ _ (by rw [hn.out]; exact hlt)]; exact List.getElem_mem _
   obtain ⟨p, hp⟩ : ∃ p, l.getD k psn0 = p := ⟨_, rfl⟩
   rw [hp] at hm d0 d1 d2 d3 d4 d5
   have hz := hok.out p hm
   have hg := hsz.out p hm
   obtain ⟨⟨s, t⟩, cl, x, y, z⟩ := p
   have hz : shoF s t = 0 := hz
   have hs : s.size ≤ 9223372036854775807 := hg.1
   have ht : t.size ≤ 9223372036854775807 := hg.2
   dsimp only at d0 d1 d2 d3 d4 d5
   obtain ⟨m, hm9⟩ : ∃ m, cl.length = m := ⟨_, rfl⟩
   rw [hm9] at d2
   have hrf := Lib.hid (shoF_ok hz).1
   obtain ⟨hN, hDn⟩ := sho_lt hz
   have hC := Lib.hid (fun (ψ : Phi) W (hf : Fz ψ W) => FracOf_any hD HM2.out hs ht hrf.out hf)
   have HB := Lib.hid (And.intro hN hDn)
   have hnx : Hid (os ++ [⟨ratX s t⟩] = (l.take (k + 1)).map fxW) := Lib.hid (by
    rw [take_snocD psn0 l k n hn.out hlt, List.map_append, hp, hL.out]; rfl)
   have hS1 := Lib.hid (hS.out.alloc (.cells #[.string s, .string t, .slice ar m cr, .int .i64 x, .int .i64 y, .int .i64 z] 76))
   clear f f2 hm hz hg hp hm9 hN hDn hS
   go_wp2_with (first
    | (go_at_call 42; (with_reducible refine (hC.out φ' _ hS1.out.inv.fz).mono ?_); rintro e w4 ⟨v4, φ4, rfl, hi4, hv4⟩; have hv5 := hv4.le HB.out.1 HB.out.2; obtain ⟨g, a1, k1, c1, a2, k2, c2, rfl, hrep⟩ := hv5.fx; have hS4 := Lib.hid (hS1.out.call hi4); have hin := Lib.hid hS4.out.inv; have hon := Lib.hid hS4.out.own; have HREP := Lib.hid hrep; clear hi4 hv4 hv5 hrep)
    | (at_builtin; (refine wpList_app1F (α := Fx 1000000000000 1000000000000) rfl _ _ 62 rfl (slFx _ _) hin.out ao co os hon.out #[.bool g, .slice a1 k1 c1, .slice a2 k2 c2] 70 ⟨ratX s t⟩ HREP.out (by rw [hol.out]; rfl) 1 rfl (by rw [hol.out]; omega) ?_; intro a9 c9 w9 hi9 ho9 hg9 hf9; rw [show (os ++ [(⟨ratX s t⟩ : Fx 1000000000000 1000000000000)]).length = k + 1 from by rw [List.length_append, hol.out]; rfl])))
   go_roundw
   case rel => exact ⟨k + 1, a9, c9, os ++ [⟨ratX s t⟩], φ4, by omega, by go_num, rfl, Lib.hid (by rw [List.length_append, hol.out]; rfl), hnx, Lib.hid ⟨hi9, ho9⟩⟩
   case measure => (simp [intOf] <;> omega)
  ·obtain rfl : k = n := by omega
   obtain ⟨φ2, hl2, hi2, hs2, _⟩ := hS.out.own.release hS.out.inv
   have HI2 := Lib.hid hi2
   have e : os = l.map fxW := by
    have := hL.out
    rwa [List.take_of_length_le (by rw [hn.out]; exact Nat.le_refl _)] at this
   rw [e] at hs2
   have HS2 := Lib.hid hs2
   have hlen : Hid ((l.map fxW).length = k) := Lib.hid (by rw [List.length_map, hn.out])
   clear hi2 hs2 hS hl2 hL e
   go_wp2
   go_ret
   exact ⟨ao, co, φ2, (by rw [hlen.out]; rfl), HI2.out, HS2.out⟩
end Go.Proofs.YtmlpjffnmkndoaaGreatDoor
