/- The walks of the program's totalsFault, fracs and CheckMargins. The walk of the program's CheckMargins. Conditions: none beyond what the claim form gives. -/
import Derived.Test.YtmlpjffnmkndoaaGreatDoorH1
import Derived.Test.YtmlpjffnmkndoaaGreatDoorJP
import Derived.Test.YtmlpjffnmkndoaaGreatDoorPD
import Derived.Test.YtmlpjffnmkndoaaGreatDoorJ2
import Derived.Test.YtmlpjffnmkndoaaGreatDoorJ19
import Derived.Deep.RegionHeld3
import Derived.Outline
namespace Go.Proofs.YtmlpjffnmkndoaaGreatDoor
open Go.RowKit
set_option linter.unusedVariables false
set_option linter.unusedSimpArgs false
theorem sgI_lt {x : Rat} : sgI x < 0 ↔ x < 0 := by
 unfold sgI
 by_cases h1 : x = 0
 ·rw [if_pos h1, h1]
  exact ⟨fun h => absurd h (by decide), fun h => absurd h (Rat.lt_irrefl)⟩
 ·rw [if_neg h1]
  by_cases h2 : x < 0
  ·rw [if_pos h2]; exact ⟨fun _ => h2, fun _ => by decide⟩
  ·rw [if_neg h2]; exact ⟨fun h => absurd h (by decide), fun h => absurd h h2⟩
set_option maxRecDepth 100000 in
set_option maxHeartbeats 2000000 in
theorem totalsFault_any {M : Nat} (hD : Hid (DivOk M)) (hM2 : p10 2000 ≤ M) {n : Nat} {a : Option Addr} {cap : Nat} {L : List Rti} {w : World} {φ : Phi} (hφ : Fz φ w) (sl : SlV φ a cap L) (hn : Hid (L.length = n)) (hsz : Hid (∀ r ∈ L, RtiG r)) {f : Int} (hf : Hid (ttsF L = f)) :
  Calls Tryz.prog 58 #[.slice a n cap] w (fun e w' => e = .returned (.int .i64 f) ∧ Below w.heap.size w w') := by
 have HM2 := Lib.hid hM2
 have hnl : n ≤ 9223372036854775807 := by have := sl.capn; have := sl.capm; rw [hn.out] at *; unfold maxLen at *; omega
 have hS0 : Hid (Inv w.heap.size w φ φ w) := Lib.hid (Inv.start hφ)
 clear hM2 hφ
 by_cases h0 : n = 0
 ·have h0i : ((n : Int) == 0) = true := by simp [h0]
  have hq : Hid (f = 9) := Lib.hid (by rw [← hf.out]; unfold ttsF; rw [if_pos (by rw [hn.out]; exact h0)])
  clear h0
  go_enter Tryz.func58, Tryz.ntmps58
  go_wp2
  go_ret
  exact ⟨ret_int hq.out.symm, hS0.out.bel⟩
 have h0i : ((n : Int) == 0) = false := by simp [h0]
 by_cases h3 : 40 < n
 ·have h3i : (40 : Int) < (n : Int) := by omega
  have hq : Hid (f = 2) := Lib.hid (by rw [← hf.out]; unfold ttsF; rw [if_neg (by rw [hn.out]; exact h0), if_pos (by rw [hn.out]; exact h3)])
  clear h3 h0
  go_enter Tryz.func58, Tryz.ntmps58
  go_wp2
  go_ret
  exact ⟨ret_int hq.out.symm, hS0.out.bel⟩
 have h3i : ¬ (40 : Int) < (n : Int) := by omega
 have h3n : n ≤ 40 := by omega
 have h0n := Lib.hid h0
 clear h3 h0
 go_enter Tryz.func58, Tryz.ntmps58
 go_wp2
 go_loopw [14] (fun iv wr => ∃ (k : Nat), k ≤ n ∧ iv = .int .i64 (k : Int) ∧ Hid (∀ i, i < k → ttlF (L.getD i rti0) = 0) ∧ Hid (Inv w.heap.size w φ φ wr)) (fun iv _ => n - (intOf iv).toNat)
 case atStart => exact ⟨0, Nat.zero_le _, rfl, none_yet _, hS0⟩
 case round =>
  clear hS0
  obtain ⟨k, hk, rfl, hok, hS⟩ := hrel
  by_cases hlt : k < n
  ·have hlti : (k : Int) < (n : Int) := by omega
   obtain ⟨b, off, rfl, fc⟩ := sl.rtisD hn hlt
   obtain ⟨d0, d1⟩ := fc k hlt wr hS.out.fz
   have hm : L.getD k rti0 ∈ L := by rw [getD_elem0 _ _ _ (by rw [hn.out]; exact hlt)]; exact List.getElem_mem _
   obtain ⟨p, hp⟩ : ∃ p, L.getD k rti0 = p := ⟨_, rfl⟩
   rw [hp] at hm d0 d1
   have hgg := hsz.out p hm
   have hst := Lib.hid (fun (q : Int) (hq : ttlF p = q) (e : q ≠ 0) => ttsF_stop hn.out h0n.out h3n hlt hok.out (by rw [hp]; exact hq) e)
   have hnx := Lib.hid (fun (e : ttlF p = 0) => next_ok (f := fun i => ttlF (L.getD i rti0)) hok (by show ttlF (L.getD k rti0) = 0; rw [hp, e]))
   rw [hf.out] at hst
   obtain ⟨s, t⟩ := p
   have hs : s.size ≤ 9223372036854775807 := hgg.1
   have ht : t.size ≤ 9223372036854775807 := hgg.2
   dsimp only at d0 d1
   have S1 := Lib.hid (hS.out.alloc (.cells #[.string s, .string t] 32))
   have HK := Lib.hid (Blk.new wr #[.string s, .string t] 32)
   obtain ⟨g, hg⟩ : ∃ g, Hid (shoF s t = g) := ⟨_, Lib.hid rfl⟩
   obtain ⟨r, hr⟩ : ∃ r, Hid (ratX s t = r) := ⟨_, Lib.hid rfl⟩
   have hte : Hid (ttlF (s, t) = if g ≠ 0 then g else if r < 0 then 1 else 0) := Lib.hid (by unfold ttlF; dsimp only; rw [hg.out, hr.out])
   clear fc hm hgg hp hS
   go_upto_region 8 with fail
   generalize wr.alloc (.cells #[.string s, .string t] 32) = wa at *
   generalize wr.heap.size = b4 at *
   clear d0 d1
   have x0 : wa.cell? ⟨b4, 0, none⟩ = some (.string s) := HK.out.cell 0
   have x1 : wa.cell? ⟨b4, 1, none⟩ = some (.string t) := HK.out.cell 1
   by_cases hg0 : g = 0
   ·subst hg0
    have hrf := Lib.hid (shoF_ok hg.out).1
    have hC := Lib.hid (fun W (hf9 : Fz φ W) => FracOf_any hD HM2.out hs ht hrf hf9)
    obtain ⟨N1, hN1⟩ : ∃ N, dV (bodyB s).data.toList = N := ⟨_, rfl⟩
    obtain ⟨D1, hD1⟩ : ∃ N, dV t.data.toList = N := ⟨_, rfl⟩
    rw [hr.out, hN1, hD1] at hC
    clear hN1 hD1
    obtain ⟨q1, hq1⟩ : ∃ q, Hid (sgI r = q) := ⟨_, Lib.hid rfl⟩
    have e1 := sgI_lt (x := r)
    rw [hq1.out] at e1
    by_cases hr0 : r < 0
    ·have hq0 : q1 < 0 := e1.2 hr0
     have HQ : Hid (f = 1) := Lib.hid (by
      have h9 : ttlF (s, t) = 1 := by rw [hte.out, if_neg (by simp), if_pos hr0]
      exact hst.out 1 h9 (by decide))
     clear hst hnx e1 hr0
     go_wp2_with (first
      | (go_at_call 87; (with_reducible refine (Short_any hD HM2.out hs ht hg S1.out.fz).mono ?_); rintro e w2 ⟨rfl, hb2⟩; have S2 := Lib.hid (S1.out.callB hb2); have K2 := Lib.hid (HK.out.callB hb2); have y0 : w2.cell? ⟨b4, 0, none⟩ = some (.string s) := K2.out.cell 0; have y1 : w2.cell? ⟨b4, 1, none⟩ = some (.string t) := K2.out.cell 1; clear hb2)
      | (go_at_call 42; (with_reducible refine (hC.out _ S2.out.fz).mono ?_); rintro e w3 ⟨v3, φ3, rfl, hi3, hv3⟩; have S3 := Lib.hid (S2.out.callB hi3.bel); have F3 := Lib.hid hi3.fz; have V3 := Lib.hid hv3; clear hi3 hv3)
      | (go_at_call 76; (with_reducible refine (Sign_any F3.out V3.out hq1).mono ?_); rintro e w4 ⟨rfl, hb4⟩; have S4 := Lib.hid (S3.out.callB hb4); clear hb4))
     go_ret
     exact ⟨ret_int HQ.out.symm, S4.out.bel⟩
    ·have hq0 : ¬ q1 < 0 := fun h => hr0 (e1.1 h)
     have hn2 := hnx.out (by rw [hte.out, if_neg (by simp), if_neg hr0])
     clear hst hnx e1 hr0
     go_wp2_with (first
      | (go_at_call 87; (with_reducible refine (Short_any hD HM2.out hs ht hg S1.out.fz).mono ?_); rintro e w2 ⟨rfl, hb2⟩; have S2 := Lib.hid (S1.out.callB hb2); have K2 := Lib.hid (HK.out.callB hb2); have y0 : w2.cell? ⟨b4, 0, none⟩ = some (.string s) := K2.out.cell 0; have y1 : w2.cell? ⟨b4, 1, none⟩ = some (.string t) := K2.out.cell 1; clear hb2)
      | (go_at_call 42; (with_reducible refine (hC.out _ S2.out.fz).mono ?_); rintro e w3 ⟨v3, φ3, rfl, hi3, hv3⟩; have S3 := Lib.hid (S2.out.callB hi3.bel); have F3 := Lib.hid hi3.fz; have V3 := Lib.hid hv3; clear hi3 hv3)
      | (go_at_call 76; (with_reducible refine (Sign_any F3.out V3.out hq1).mono ?_); rintro e w4 ⟨rfl, hb4⟩; have S4 := Lib.hid (S3.out.callB hb4); clear hb4))
     go_roundw
     case rel => exact ⟨k + 1, by omega, by go_num, hn2, S4⟩
     case measure => (simp [intOf] <;> omega)
   ·have HQ : Hid (f = g) := Lib.hid (hst.out g (by rw [hte.out, if_pos hg0]) hg0)
    have h0i : (g == 0) = false := by simp [hg0]
    have h0j : (g != 0) = true := by simp [hg0]
    clear hst hnx hg0
    go_wp2_with (first
     | (go_at_call 87; (with_reducible refine (Short_any hD HM2.out hs ht hg S1.out.fz).mono ?_); rintro e w2 ⟨rfl, hb2⟩; have S2 := Lib.hid (S1.out.callB hb2); have K2 := Lib.hid (HK.out.callB hb2); have y0 : w2.cell? ⟨b4, 0, none⟩ = some (.string s) := K2.out.cell 0; have y1 : w2.cell? ⟨b4, 1, none⟩ = some (.string t) := K2.out.cell 1; clear hb2)
     | (go_at_call 42; (with_reducible refine (hC.out _ S2.out.fz).mono ?_); rintro e w3 ⟨v3, φ3, rfl, hi3, hv3⟩; have S3 := Lib.hid (S2.out.callB hi3.bel); have F3 := Lib.hid hi3.fz; have V3 := Lib.hid hv3; clear hi3 hv3)
     | (go_at_call 76; (with_reducible refine (Sign_any F3.out V3.out hq1).mono ?_); rintro e w4 ⟨rfl, hb4⟩; have S4 := Lib.hid (S3.out.callB hb4); clear hb4))
    go_ret
    exact ⟨ret_int HQ.out.symm, S2.out.bel⟩
  ·obtain rfl : k = n := by omega
   have hE : Hid (f = 0) := Lib.hid (by rw [← hf.out]; exact ttsF_zero hn.out h0n.out h3n hok.out)
   go_wp2
   go_ret
   exact ⟨ret_int hE.out.symm, hS.out.bel⟩
abbrev fxR (r : Rti) : Fx 1000000000000 1000000000000 := ⟨ratX r.1 r.2⟩
set_option maxRecDepth 100000 in
set_option maxHeartbeats 2000000 in
theorem fracs_any {M : Nat} (hD : Hid (DivOk M)) (hM2 : p10 2000 ≤ M) {n : Nat} {a : Option Addr} {cap : Nat} {l : List Rti} {w : World} {φ : Phi} (hφ : Fz φ w) (sl : SlV φ a cap l) (hn : Hid (l.length = n)) (hn3 : n ≤ 3000) (hsz : Hid (∀ p ∈ l, RtiG p)) (hok : Hid (∀ p ∈ l, shoF p.1 p.2 = 0)) :
  Calls Tryz.prog 60 #[.slice a n cap] w (SlPost1 (l.map fxR) φ w) := by
 have hS0 : Hid (OwG w φ φ 70 none 0 ([] : List (Fx 1000000000000 1000000000000)) w) := Lib.hid ⟨Inv.start hφ, Own.nil _ _ _ _⟩
 have HM2 := Lib.hid hM2
 clear hφ hM2
 go_enter Tryz.func60, Tryz.ntmps60
 go_wp2
 go_loopw [3, 8] (fun ov iv wr => ∃ (k : Nat) (ao : Option Addr) (co : Nat) (os : List (Fx 1000000000000 1000000000000)) (φ' : Phi), k ≤ n ∧ iv = .int .i64 (k : Int) ∧ ov = .slice ao k co ∧ Hid (os.length = k) ∧ Hid (os = (l.take k).map fxR) ∧ Hid (OwG w φ φ' 70 ao co os wr)) (fun _ iv _ => n - (intOf iv).toNat)
 case atStart => exact ⟨0, none, 0, [], φ, Nat.zero_le _, rfl, rfl, Lib.hid rfl, Lib.hid rfl, hS0⟩
 case round =>
  clear hS0
  obtain ⟨k, ao, co, os, φ', hk, rfl, rfl, hol, hL, hS⟩ := hrel
  by_cases hlt : k < n
  ·have hlti : (k : Int) < (n : Int) := by omega
   obtain ⟨b, off, rfl, f⟩ := sl.rtisD hn hlt
   obtain ⟨d0, d1⟩ := f k hlt wr (hS.out.inv.fz.sub hS.out.inv.le)
   have hm : l.getD k rti0 ∈ l := by rw [getD_elem0 _ _ _ (by rw [hn.out]; exact hlt)]; exact List.getElem_mem _
   obtain ⟨p, hp⟩ : ∃ p, l.getD k rti0 = p := ⟨_, rfl⟩
   rw [hp] at hm d0 d1
   have hz := hok.out p hm
   have hg := hsz.out p hm
   obtain ⟨s, t⟩ := p
   have hz : shoF s t = 0 := hz
   have hs : s.size ≤ 9223372036854775807 := hg.1
   have ht : t.size ≤ 9223372036854775807 := hg.2
   dsimp only at d0 d1
   have hrf := Lib.hid (shoF_ok hz).1
   obtain ⟨hN, hDn⟩ := sho_lt hz
   have hC := Lib.hid (fun (ψ : Phi) W (hf : Fz ψ W) => FracOf_any hD HM2.out hs ht hrf hf)
   have HB := Lib.hid (And.intro hN hDn)
   have hnx : Hid (os ++ [⟨ratX s t⟩] = (l.take (k + 1)).map fxR) := Lib.hid (by
    rw [take_snocD rti0 l k n hn.out hlt, List.map_append, hp, hL.out]; rfl)
   have hS1 := Lib.hid (hS.out.alloc (.cells #[.string s, .string t] 32))
   clear f hm hz hg hp hN hDn hS
   go_wp2_with (first
    | (go_at_call 42; (with_reducible refine (hC.out φ' _ hS1.out.inv.fz).mono ?_); rintro e w4 ⟨v4, φ4, rfl, hi4, hv4⟩; have hv5 := hv4.le HB.out.1 HB.out.2; obtain ⟨g, a1, k1, c1, a2, k2, c2, rfl, hrep⟩ := hv5.fx; have hS4 := Lib.hid (hS1.out.call hi4); have hin := Lib.hid hS4.out.inv; have hon := Lib.hid hS4.out.own; have HREP := Lib.hid hrep; clear hi4 hv4 hv5 hrep)
    | (at_builtin; (refine wpList_app1F (α := Fx 1000000000000 1000000000000) rfl _ _ 62 rfl (slFx _ _) hin.out ao co os hon.out #[.bool g, .slice a1 k1 c1, .slice a2 k2 c2] 70 ⟨ratX s t⟩ HREP.out (by rw [hol.out]; rfl) 1 rfl (by rw [hol.out]; omega) ?_; intro a9 c9 w9 hi9 ho9 hg9 hf9; rw [show (os ++ [(⟨ratX s t⟩ : Fx 1000000000000 1000000000000)]).length = k + 1 from by rw [List.length_append, hol.out]; rfl])))
   go_roundw
   case rel => exact ⟨k + 1, a9, c9, os ++ [⟨ratX s t⟩], φ4, by omega, by go_num, rfl, Lib.hid (by rw [List.length_append, hol.out]; rfl), hnx, Lib.hid ⟨hi9, ho9⟩⟩
   case measure => (simp [intOf] <;> omega)
  ·obtain rfl : k = n := by omega
   obtain ⟨φ2, hl2, hi2, hs2, _⟩ := hS.out.own.release hS.out.inv
   have HI2 := Lib.hid hi2
   have e : os = l.map fxR := by
    have := hL.out
    rwa [List.take_of_length_le (by rw [hn.out]; exact Nat.le_refl _)] at this
   rw [e] at hs2
   have HS2 := Lib.hid hs2
   have hlen : Hid ((l.map fxR).length = k) := Lib.hid (by rw [List.length_map, hn.out])
   clear hi2 hs2 hS hl2 hL e
   go_wp2
   go_ret
   exact ⟨ao, co, φ2, (by rw [hlen.out]; rfl), HI2.out, HS2.out⟩
end Go.Proofs.YtmlpjffnmkndoaaGreatDoor

namespace Go.Proofs.YtmlpjffnmkndoaaGreatDoor
open Go.RowKit
set_option linter.unusedVariables false
set_option linter.unusedSimpArgs false
theorem cmpQ_zero {x y : Rat} : cmpQ x y = 0 ↔ x = y := by
 unfold cmpQ
 by_cases h1 : x < y
 ·rw [if_pos h1]
  exact ⟨fun h => absurd h (by decide), fun h => absurd (h ▸ h1 : y < y) (Rat.lt_irrefl)⟩
 ·rw [if_neg h1]
  by_cases h2 : x = y
  ·rw [if_pos h2]; exact ⟨fun _ => h2, fun _ => rfl⟩
  ·rw [if_neg h2]; exact ⟨fun h => absurd h (by decide), fun h => absurd h h2⟩
def MgnG (x : Mgn) : Prop := x.1.size ≤ reachBytes ∧ ∀ r ∈ x.2, RtiG r
/-- The state of CheckMargins. -/
structure MgS (w : World) (r : Nat) (L : List ByteArray) (wr : World) : Prop where
 bel : Below w.heap.size w wr
 map : SeenW wr r L
 lo : w.heap.size ≤ r
theorem MgS.callB {w wr w' : World} {r : Nat} {L : List ByteArray} (h : MgS w r L wr) (hb : Below wr.heap.size wr w') : MgS w r L w' := ⟨h.bel.trans (hb.mono h.bel.size), h.map.callB hb, h.lo⟩
theorem MgS.alloc {w wr : World} {r : Nat} {L : List ByteArray} (h : MgS w r L wr) (o : Obj) : MgS w r L (wr.alloc o) := h.callB ((Below.refl _ _).alloc (Nat.le_refl _) o)
theorem below_grownH {w0 w w' : World} {r : Nat} (h : Below w0.heap.size w0 w) (hg : w.grownBy w' (some r)) (hr : w0.heap.size ≤ r) : Below w0.heap.size w0 w' :=
 ⟨hg.os.trans h.os, hg.tape.trans h.tape, hg.output.trans h.output, Nat.le_trans h.size hg.size, fun k hk => (hg.block k (Nat.lt_of_lt_of_le hk h.size) (fun e => by cases e; omega)).trans (h.block k hk)⟩
theorem farH {w w' : World} {b o : Nat} (h : w'.heap[b]? = w.heap[b]?) : w'.cell? ⟨b, o, none⟩ = w.cell? ⟨b, o, none⟩ ∧ w'.frozen? ⟨b, o, none⟩ = w.frozen? ⟨b, o, none⟩ := by
 unfold World.cell? World.frozen?
 dsimp only
 rw [h]; exact ⟨rfl, rfl⟩
theorem MgS.put {w wr : World} {r : Nat} {L : List ByteArray} (h : MgS w r L wr) (k : ByteArray) : ∃ o, (Instr.mapUpdate 96 (.map (some r)) (.string k) (.bool true)).run Tryz.prog wr = .ok () (setMap wr r o) ∧ MgS w r (k :: L) (setMap wr r o) ∧ wr.grownBy (setMap wr r o) (some r) := by
 obtain ⟨o, h1, h2⟩ := h.map.put k
 exact ⟨o, h1, ⟨below_grownH h.bel (setMap_grown _ r o) h.lo, h2, h.lo⟩, setMap_grown _ r o⟩
def rtx (r : Rti) : Rat := ratX r.1 r.2
theorem sumT_eq (x : Mgn) : sumT x = sumQ (x.2.map rtx) := rfl
/-- What is known of totals that are right. -/
def TtsG (l : List Rti) (n : Nat) : Prop := l.length = n ∧ n ≤ 40 ∧ (∀ p ∈ l, RtiG p) ∧ ∀ p ∈ l, shoF p.1 p.2 = 0
theorem TtsG.of {l : List Rti} (hg : ∀ r ∈ l, RtiG r) (h : ttsF l = 0) : TtsG l l.length := by
 obtain ⟨_, h2, h3⟩ := ttsF_ok h
 refine ⟨rfl, h2, hg, fun p hp => ?_⟩
 obtain ⟨i, hi, e⟩ := List.getElem_of_mem hp
 have := h3 i hi
 rw [getD_elem0 _ _ _ hi, e] at this
 exact (ttlF_ok this).1
theorem p10_leH {j k : Nat} (h : j ≤ k) : p10 j ≤ p10 k := Nat.pow_le_pow_right (by decide) h
theorem p10_500 {n N : Nat} (hn : n ≤ 40) (hN : Hid (N = 1000000000000)) : n * N * N ^ n ≤ p10 500 ∧ N ^ n ≤ p10 500 := by
  have h1 : N ≤ 10 ^ 12 := by rw [hN.out]; decide
  obtain ⟨m, hm⟩ : ∃ m, m = 40 := ⟨_, rfl⟩
  rw [← hm] at hn
  have h0 : n ≤ 10 ^ 2 := by have : (10 : Nat) ^ 2 = 100 := by decide
                             omega
  have h3 := ten_pow h1 hn
  have h5 := ten_mul (ten_mul h0 h1) h3
  have fin : ∀ {a i k : Nat}, a ≤ 10 ^ i → i ≤ k → a ≤ p10 k := fun h hi => ten_le h hi
  exact ⟨fin h5 (by omega), fin h3 (by omega)⟩
section
variable {M : Nat} {w W : World} {φ φ1 : Phi}
theorem fracs_T (hD : Hid (DivOk M)) (hM2 : Hid (p10 2000 ≤ M)) {N : Nat} (hN : Hid (N = 1000000000000)) {a : Option Addr} {cap n : Nat} {l : List Rti} (sl : Hid (SlV φ a cap l)) (hl : Hid (TtsG l n)) (hI : Hid (Inv w.heap.size w φ φ1 W)) :
  Calls Tryz.prog 60 #[.slice a n cap] W (fun e w' => ∃ a' c' φ', e = .returned (.slice a' n c') ∧ Hid (Inv w.heap.size w φ φ' w') ∧ Hid (φ1.le φ') ∧ Hid (SlV φ' a' c' ((l.map rtx).map (Fx.mk (N := N) (D := N))))) := by
 refine (fracs_any hD hM2.out hI.out.fz (sl.out.mono hI.out.le) (Lib.hid hl.out.1) (by have := hl.out.2.1; omega) (Lib.hid hl.out.2.2.1) (Lib.hid hl.out.2.2.2)).mono ?_
 rintro e w' ⟨a', c', φ', rfl, hi, hs⟩
 have hN' := hN.out
 subst hN'
 refine ⟨a', c', φ', by rw [List.length_map, hl.out.1], Lib.hid (hI.out.call hi), Lib.hid hi.le, Lib.hid ?_⟩
 rw [List.map_map]
 exact hs
theorem SumOf_T (hD : Hid (DivOk M)) (hM : LenB M) (hM2 : Hid (p10 2000 ≤ M)) {K : Nat} (hK : Hid (p10 500 = K)) {N : Nat} (hN : Hid (N = 1000000000000)) {a : Option Addr} {cap n : Nat} {l : List Rti} {ψ : Phi} (sl : Hid (SlV ψ a cap ((l.map rtx).map (Fx.mk (N := N) (D := N))))) (hle : Hid (ψ.le φ1)) (hl : Hid (TtsG l n)) {S : Rat} (hS : Hid (sumQ (l.map rtx) = S)) (hI : Hid (Inv w.heap.size w φ φ1 W)) :
  Calls Tryz.prog 59 #[.slice a n cap] W (fun e w' => ∃ v φ', e = .returned v ∧ Hid (Inv w.heap.size w φ φ' w') ∧ Hid (φ1.le φ') ∧ Hid (FfX φ' v S K K)) := by
 obtain ⟨e1, e2⟩ := p10_500 hl.out.2.1 hN
 have e3 : p10 500 ≤ M := Nat.le_trans (p10_leH (by decide)) hM2.out
 rw [hK.out] at e1 e2 e3
 have hN1 : 1 ≤ N := by rw [hN.out]; decide
 refine (SumOf_any hD hM hN1 (Nat.le_trans e1 e3) (Nat.le_trans e2 e3) hI.out.fz (sl.out.mono hle.out) (Lib.hid (by rw [List.length_map]; exact hl.out.1)) hS).mono ?_
 rintro e w' ⟨v, φ', rfl, hi, hv⟩
 exact ⟨v, φ', rfl, Lib.hid (hI.out.call hi), Lib.hid hi.le, Lib.hid (hv.le e1 e2)⟩
end
theorem p10_sq {k i M : Nat} (h1 : k + k + 1 ≤ i) (hM : Hid (p10 i ≤ M)) : p10 k * p10 k + p10 k * p10 k ≤ M ∧ p10 k * p10 k ≤ M := by
 have p : ∀ k, p10 k ≤ 10 ^ k := fun k => Nat.le_refl _
 have g4 := ten_mul (p k) (p k)
 have g5 : p10 k * p10 k ≤ p10 i := ten_le g4 (by omega)
 have g6 : 2 * (p10 k * p10 k) ≤ p10 i := ten_le (ten_mul (show (2 : Nat) ≤ 10 ^ 1 by decide) g4) (by omega)
 have := hM.out
 omega
theorem p10_cmp {k K M : Nat} (hk : k + k + 1 ≤ 2000) (hK : Hid (p10 k = K)) (hM : Hid (p10 2000 ≤ M)) : Hid (K * K + K * K ≤ M ∧ K * K ≤ M) := Lib.hid (by rw [← hK.out]; exact p10_sq hk hM)
set_option maxRecDepth 100000 in
set_option maxHeartbeats 4000000 in
theorem CheckMargins_any {M : Nat} (hD : Hid (DivOk M)) (hM : LenB M) (hM2 : p10 2000 ≤ M) {n : Nat} {a : Option Addr} {cap : Nat} {m : List Mgn} {w : World} {φ : Phi} (hφ : Fz φ w) (sl : SlV φ a cap m) (hn : Hid (m.length = n)) (hsz : Hid (∀ x ∈ m, MgnG x)) {f : Int} (hf : Hid (mgsF m = f)) :
  Calls Tryz.prog 20 #[.slice a n cap] w (fun e w' => e = .returned (.int .i64 f) ∧ Below w.heap.size w w') := by
 have HM2 := Lib.hid hM2
 obtain ⟨K, hK⟩ : ∃ K, Hid (p10 500 = K) := ⟨_, Lib.hid rfl⟩
 have HMC := p10_cmp (by decide) hK HM2
 have hnl : n ≤ 9223372036854775807 := by have := sl.capn; have := sl.capm; rw [hn.out] at *; unfold maxLen at *; omega
 by_cases h3 : 8 < n
 ·have h3i : (8 : Int) < (n : Int) := by omega
  have hq : Hid (f = 2) := Lib.hid (by rw [← hf.out]; exact mgsF_large (by rw [hn.out]; exact h3))
  clear h3
  go_enter Tryz.func20, Tryz.ntmps20
  go_wp2
  go_ret
  exact ⟨ret_int hq.out.symm, Below.refl _ _⟩
 have h3i : ¬ (8 : Int) < (n : Int) := by omega
 have h3n : n ≤ 8 := by omega
 clear h3
 have hmm := @run_makeMap Tryz.prog
 have hSt : Hid (MgS w w.heap.size (mnmL m 0) (w.alloc (.map #[] 0))) := Lib.hid ⟨(Below.refl _ _).alloc (Nat.le_refl _) _, SeenW.new w, Nat.le_refl _⟩
 obtain ⟨N, hN⟩ : ∃ N, Hid (N = 1000000000000) := ⟨_, Lib.hid rfl⟩
 have HFZ := Lib.hid hφ
 have HSL := Lib.hid sl
 clear hM2 hφ sl
 go_enter Tryz.func20, Tryz.ntmps20
 go_wp2
 clear hmm
 generalize w.alloc (.map #[] 0) = wm at *
 generalize hr0 : w.heap.size = r at *
 replace hr0 := Lib.hid hr0
 go_loopw [15] (fun i wr => ∃ k : Nat, k ≤ n ∧ i = .int .i64 k ∧ Hid (∀ i, i < k → mgnF m i = 0) ∧ Hid (MgS w r (mnmL m k) wr)) (fun i _ => n - (intOf i).toNat)
 case atStart => exact ⟨0, Nat.zero_le _, rfl, none_yet _, hSt⟩
 case round =>
  clear hSt
  obtain ⟨k, hk, rfl, hok, hS⟩ := hrel
  by_cases hlt : k < n
  ·have hlti : (k : Int) < (n : Int) := by omega
   obtain ⟨b, off, rfl, fc⟩ := HSL.out.mgnsD hn hlt
   obtain ⟨ar, cr, sk, f2⟩ := fc k hlt
   obtain ⟨c1, c2⟩ := f2 wr (HFZ.out.below hS.out.bel)
   have hbad : Hid (mgnF m k = _) := Lib.hid (mgnF.eq_1 m k)
   have hsl := Lib.hid (mnmL_succ m k n hn.out hlt)
   have hgk := Lib.hid (hsz.out _ (by rw [getD_elem0 mgn0 _ _ (by rw [hn.out]; exact hlt)]; exact List.getElem_mem _) : MgnG (m.getD k mgn0))
   have hstp := Lib.hid (fun (q : Int) (hq : mgnF m k = q) (e : q ≠ 0) => mgsF_stop hn.out h3n hlt hok.out hq e)
   rw [hf.out] at hstp
   clear fc f2
   generalize hX : m.getD k mgn0 = X at *
   obtain ⟨nm, tl⟩ := X
   replace hX := Lib.hid hX
   dsimp only at c1 c2 sk
   replace hbad : Hid (mgnF m k = if nameB nm = false then 5 else if decide (nm ∈ mnmL m k) = true then 6 else ttsF tl) := hbad
   obtain ⟨nt, hnt⟩ : ∃ nt, Hid (tl.length = nt) := ⟨_, Lib.hid rfl⟩
   rw [hnt.out] at c2
   have HSK := Lib.hid sk
   have hS1 := Lib.hid (hS.out.alloc (.cells #[.string nm, .slice ar nt cr] 30))
   have b0 : (wr.alloc (.cells #[.string nm, .slice ar nt cr] 30)).cell? ⟨wr.heap.size, 0, none⟩ = some (.string nm) := box_at 0
   have b1 : (wr.alloc (.cells #[.string nm, .slice ar nt cr] 30)).cell? ⟨wr.heap.size, 1, none⟩ = some (.slice ar nt cr) := box_at 1
   have hrlt := hS.out.map.lt
   obtain ⟨o1, ho1⟩ : ∃ o, Hid (nameB nm = o) := ⟨_, Lib.hid rfl⟩
   obtain ⟨o2, ho2⟩ : ∃ o, Hid (decide (nm ∈ mnmL m k) = o) := ⟨_, Lib.hid rfl⟩
   cases o1
   case false =>
    have HQ := Lib.hid (hstp.out 5 (by rw [hbad.out, if_pos ho1.out]) (by decide))
    clear hstp
    go_wp2_with fail
    refine (IsName_any _ _ hgk.out.1 ho1.out).mono ?_
    rintro e w' ⟨rfl, rfl⟩
    go_wp2
    go_ret
    exact ⟨ret_int HQ.out.symm, hS1.out.bel⟩
   have hlk := hS1.out.map.look nm ho2.out
   cases o2
   case true =>
    have HQ := Lib.hid (hstp.out 6 (by rw [hbad.out, if_neg (by rw [ho1.out]; simp), if_pos ho2.out]) (by decide))
    clear hstp
    go_wp2_with fail
    refine (IsName_any _ _ hgk.out.1 ho1.out).mono ?_
    rintro e w' ⟨rfl, rfl⟩
    go_wp2
    go_ret
    exact ⟨ret_int HQ.out.symm, hS1.out.bel⟩
   obtain ⟨o, hp, hS2, hgr⟩ := hS1.out.put nm
   have HS2 := Lib.hid hS2
   have hne : wr.heap.size ≠ r := by omega
   have q := fun (o' : Nat) => farH (o := o') (hgr.block wr.heap.size (by simp) (by simpa using hne))
   have d0 : (setMap (wr.alloc (.cells #[.string nm, .slice ar nt cr] 30)) r o).cell? ⟨wr.heap.size, 0, none⟩ = some (.string nm) := (q 0).1.trans b0
   have d1 : (setMap (wr.alloc (.cells #[.string nm, .slice ar nt cr] 30)) r o).cell? ⟨wr.heap.size, 1, none⟩ = some (.slice ar nt cr) := (q 1).1.trans b1
   clear hS2 hgr q
   obtain ⟨q, hq⟩ : ∃ q, Hid (ttsF tl = q) := ⟨_, Lib.hid rfl⟩
   have hff : Hid (mgnF m k = q) := Lib.hid (by rw [hbad.out, if_neg (by rw [ho1.out]; simp), if_neg (by rw [ho2.out]; simp), hq.out])
   go_wp2_with fail
   refine (IsName_any _ _ hgk.out.1 ho1.out).mono ?_
   rintro e w' ⟨rfl, rfl⟩
   go_wp2_with fail
   refine (totalsFault_any hD HM2.out (HFZ.out.below HS2.out.bel) HSK.out hnt (Lib.hid hgk.out.2) hq).mono ?_
   rintro e w3 ⟨rfl, hb3⟩
   have hS3 := Lib.hid (HS2.out.callB hb3)
   rw [← hsl.out] at hS3
   clear hlk hp d0 d1 b0 b1 hb3 HS2 hS1
   by_cases hq0 : q = 0
   ·have hgg : ((q : Int) != 0) = false := by simp [hq0]
    have hn2 := next_ok hok (by rw [hff.out, hq0] : mgnF m k = 0)
    clear hq0 hstp
    go_wp2
    go_roundw
    case rel => exact ⟨k + 1, by omega, by go_num, hn2, hS3⟩
    case measure => (simp [intOf] <;> omega)
   ·have hgg : ((q : Int) != 0) = true := by simp [hq0]
    have HQ := Lib.hid (hstp.out q hff.out hq0)
    clear hq0 hstp
    go_wp2
    go_ret
    exact ⟨ret_int HQ.out.symm, hS3.out.bel⟩
  ·have hkn : n = k := by omega
   subst hkn
   have hI0 : Hid (Inv w.heap.size w φ φ wr) := Lib.hid ((Inv.start HFZ.out).callB (by rw [hr0.out]; exact hr0.out ▸ hS.out.bel))
   have hcf := Lib.hid (mgsF_cfl hn.out h3n hok.out)
   rw [hf.out] at hcf
   have hgd : Hid (∀ i, i < n → TtsG (m.getD i mgn0).2 (m.getD i mgn0).2.length) := Lib.hid (fun i hi => TtsG.of (hsz.out _ (by rw [getD_elem0 mgn0 _ _ (by rw [hn.out]; exact hi)]; exact List.getElem_mem _)).2 (mgnF_ok (hok.out i hi)).2)
   clear hS hok
   go_wp2
   go_loopw [39] (fun i wr => ∃ k : Nat, k ≤ n ∧ i = .int .i64 k ∧ Hid (∀ i, i < k → cfl m i = 0) ∧ Hid (Inv w.heap.size w φ φ wr)) (fun i _ => n - (intOf i).toNat)
   case atStart => exact ⟨0, Nat.zero_le _, rfl, none_yet _, hI0⟩
   case round =>
    clear hI0
    rename World => wr
    obtain ⟨k, hk, rfl, hok, hI⟩ := hrel
    by_cases hlt : k < n
    ·have hlti : (k : Int) < (n : Int) := by omega
     have hn0 : 0 < n := by omega
     have hn0i : (0 : Int) < (n : Int) := by omega
     obtain ⟨b, off, rfl, fc⟩ := HSL.out.mgnsD hn hlt
     obtain ⟨ar, cr, sk, f2⟩ := fc k hlt
     obtain ⟨ar0, cr0, sk0, f20⟩ := fc 0 hn0
     obtain ⟨c1, c2⟩ := f2 wr hI.out.fz
     have HG := Lib.hid (hgd.out k hlt)
     have HG0 := Lib.hid (hgd.out 0 hn0)
     have hcw : Hid (cfl m k = if sumT (m.getD k mgn0) = sumT (m.getD 0 mgn0) then 0 else 17) := Lib.hid rfl
     have hst : Hid (cfl m k ≠ 0 → f = 17) := Lib.hid (fun e => by
      rw [hcf.out]
      have h1 := scan_stop (f := cfl m) hok.out hlt e
      rw [h1]
      unfold cfl at e ⊢
      split
      ·next h => rw [if_pos h] at e; exact absurd rfl e
      ·rfl)
     generalize m.getD k mgn0 = X at *
     have f20' := Lib.hid f20
     have HS0 := Lib.hid sk0
     generalize m.getD 0 mgn0 = X0 at *
     obtain ⟨nm, tl⟩ := X
     obtain ⟨nm0, tl0⟩ := X0
     dsimp only at c1 c2 sk HG HG0 HS0
     obtain ⟨nt, hnt⟩ : ∃ nt, tl.length = nt := ⟨_, rfl⟩
     obtain ⟨nt0, hnt0⟩ : ∃ nt, tl0.length = nt := ⟨_, rfl⟩
     rw [hnt] at c2 HG
     rw [hnt0] at HG0
     have HSK := Lib.hid sk
     obtain ⟨S1, hS1⟩ : ∃ x, Hid (sumQ (tl.map rtx) = x) := ⟨_, Lib.hid rfl⟩
     obtain ⟨S0, hS0⟩ : ∃ x, Hid (sumQ (tl0.map rtx) = x) := ⟨_, Lib.hid rfl⟩
     obtain ⟨q, hq⟩ : ∃ x, Hid (cmpQ S1 S0 = x) := ⟨_, Lib.hid rfl⟩
     have hcw2 : Hid (cfl m k = if S1 = S0 then 0 else 17) := Lib.hid (by rw [hcw.out, sumT_eq, sumT_eq, hS1.out, hS0.out])
     obtain ⟨φ1, l1, i1, e1⟩ := hI.out.frz (.cells #[.string nm, .slice ar nt cr] 30)
     have I1 := Lib.hid i1
     have EB := Lib.hid e1
     have hcf2 := Lib.hid (fun (ψ : Phi) (W : World) (hi9 : Hid (Inv w.heap.size w φ ψ W)) (hl9 : Hid (φ1.le ψ)) => (by
      have h := (f20'.out W (hi9.out.fz.sub hi9.out.le)).2
      simp only [Nat.zero_mul, Nat.add_zero] at h
      rw [hnt0] at h
      exact ⟨box_cell EB.out hl9.out hi9.out.fz 1, h⟩ : W.cell? ⟨wr.heap.size, 1, none⟩ = some (.slice ar nt cr) ∧ W.cell? ⟨b, off + 1, none⟩ = some (.slice ar0 nt0 cr0)))
     clear fc f2 f20 sk sk0 hI hcw f20' hnt hnt0 l1 i1 e1
     go_upto_region 19 with fail
     generalize wr.alloc (.cells #[.string nm, .slice ar nt cr] 30) = wa at *
     generalize wr.heap.size = b8 at *
     clear c1 c2
     have Id : Hid (Inv w.heap.size w φ φ1 wa.drew) := Lib.hid I1.out.drew
     have LR := Lib.hid φ1.le_refl
     obtain ⟨y0, y1⟩ := hcf2.out φ1 wa I1 LR
     obtain ⟨x0, x1⟩ := hcf2.out φ1 wa.drew Id LR
     go_region_held3 (fun w' => w'.cell? ⟨b8, 1, none⟩ = some (.slice ar nt cr) ∧ w'.cell? ⟨b, off + 1, none⟩ = some (.slice ar0 nt0 cr0)) (first | done | with_reducible exact ⟨x0, x1⟩ | with_reducible exact ⟨by assumption, by assumption⟩ | fail) (first
      | ((with_reducible refine (Compare_any hM ID.out.fz (VB.out.mono (LC.out.trans LD.out)) VD.out HMC.out.1 HMC.out.2 hq).mono ?_); rintro e wE ⟨rfl, hbE⟩; have IE := Lib.hid (ID.out.callB hbE); obtain ⟨s0, s1⟩ := hcf2.out φD wE IE (Lib.hid (LA.out.trans (LB.out.trans (LC.out.trans LD.out)))); clear hbE)
      | ((with_reducible refine (SumOf_T hD hM HM2 hK hN SC (Lib.hid φC.le_refl) HG0 hS0 IC).mono ?_); rintro e wD ⟨vD, φD, rfl, ID, LD, VD⟩; obtain ⟨r0, r1⟩ := hcf2.out φD wD ID (Lib.hid (LA.out.trans (LB.out.trans (LC.out.trans LD.out)))))
      | ((with_reducible refine (fracs_T hD HM2 hN HS0 HG0 IB).mono ?_); rintro e wC ⟨aC, cC, φC, rfl, IC, LC, SC⟩; obtain ⟨q0, q1⟩ := hcf2.out φC wC IC (Lib.hid (LA.out.trans (LB.out.trans LC.out))))
      | ((with_reducible refine (SumOf_T hD hM HM2 hK hN SA (Lib.hid φA.le_refl) HG hS1 IA).mono ?_); rintro e wB ⟨vB, φB, rfl, IB, LB, VB⟩; obtain ⟨p0, p1⟩ := hcf2.out φB wB IB (Lib.hid (LA.out.trans LB.out)))
      | ((with_reducible refine (fracs_T hD HM2 hN HSK HG Id).mono ?_); rintro e wA ⟨aA, cA, φA, rfl, IA, LA, SA⟩; obtain ⟨o0, o1⟩ := hcf2.out φA wA IA LA)
      | fail)
     all_goals
      have IF := Lib.hid ((Inv.start HFZ.out).callB IE.out.bel)
      clear x0 x1 y0 y1 o0 o1 p0 p1 q0 q1 r0 r1 s0 s1 hcf2
      by_cases hq0 : q = 0
      ·have hgg : ((q : Int) != 0) = false := by simp [hq0]
       have hn2 := next_ok hok (by rw [hcw2.out, if_pos (cmpQ_zero.1 (by rw [hq.out]; exact hq0))] : cfl m k = 0)
       clear hq0 hst
       go_wp2
       go_roundw
       case rel => exact ⟨k + 1, by omega, by go_num, hn2, IF⟩
       case measure => (simp [intOf] <;> omega)
      ·have hgg : ((q : Int) != 0) = true := by simp [hq0]
       have HQ := Lib.hid (hst.out (by rw [hcw2.out, if_neg (fun e => hq0 (by rw [← hq.out]; exact cmpQ_zero.2 e))]; decide))
       clear hq0 hst
       go_wp2
       go_ret
       exact ⟨ret_int HQ.out.symm, IF.out.bel⟩
    ·have hkn : n = k := by omega
     subst hkn
     have HQ : Hid (f = 0) := Lib.hid (by rw [hcf.out]; exact scan_zero _ _ hok.out)
     go_wp2
     go_ret
     exact ⟨ret_int HQ.out.symm, hI.out.bel⟩
end Go.Proofs.YtmlpjffnmkndoaaGreatDoor
