/- The walk of the reference's SpreadOf. Conditions: the library's table of powers of ten reads as it was laid. -/
import Derived.Test.YtdlnhmcgnpjooaaGreatDoorJ21a
import Derived.Test.YtdlnhmcgnpjooaaGreatDoorJE
import Derived.Test.YtdlnhmcgnpjooaaGreatDoorJB
import Derived.Test.YtdlnhmcgnpjooaaGreatDoorB23
import Derived.Deep.DeepCutAuto
namespace Go.Proofs.YtdlnhmcgnpjooaaGreatDoor
open Go.RowKit
set_option linter.unusedVariables false
theorem RWhole_B {T E : TypeId} {z : Array Value} {w0 W : World} {φ0 φ : Phi} {b : Nat} {m : List (Nat × Array Value)} (h : Hid (BxS T z E w0 φ0 φ b m W)) :
    Calls Tryz.prog 17 #[.int .i64 0] W (fun e w' => ∃ v φ', e = .returned v ∧ Hid (BxS T z E w0 φ0 φ' b m w') ∧ Hid (FrX φ' v 0 0 1) ∧ Hid (φ.le φ')) := by
  refine (RWhole_any (n := 0) (by decide) (by decide) h.out.r.inv.fz).mono ?_
  rintro e w' ⟨v, φ', rfl, hi, hv⟩
  exact ⟨v, φ', rfl, Lib.hid (h.out.call hi), Lib.hid hv, Lib.hid hi.le⟩
theorem FrX.rep {φ : Phi} {g : Bool} {a1 : Option Addr} {k1 c1 : Nat} {a2 : Option Addr} {k2 c2 : Nat} {x : Rat} {N D : Nat} (h : FrX φ (.agg #[.bool g, .slice a1 k1 c1, .slice a2 k2 c2]) x N D) : Rep.rep φ (⟨x⟩ : Rx N D) [.bool g, .slice a1 k1 c1, .slice a2 k2 c2] := ⟨g, a1, k1, c1, a2, k2, c2, rfl, h⟩
theorem Rshut_lit {M : Nat} (hD : Hid (RdivOk M)) (hM : LenB M) {g0 : Bool} {a0 : Option Addr} {k0 c0 : Nat} {a0' : Option Addr} {k0' c0' : Nat} {g1 : Bool} {a1 : Option Addr} {k1 c1 : Nat} {a1' : Option Addr} {k1' c1' : Nat} {g2 : Bool} {a2 : Option Addr} {k2 c2 : Nat} {a2' : Option Addr} {k2' c2' : Nat} {g3 : Bool} {a3 : Option Addr} {k3 c3 : Nat} {a3' : Option Addr} {k3' c3' : Nat} {g4 : Bool} {a4 : Option Addr} {k4 c4 : Nat} {a4' : Option Addr} {k4' c4' : Nat} {g5 : Bool} {a5 : Option Addr} {k5 c5 : Nat} {a5' : Option Addr} {k5' c5' : Nat} {x0 x1 x2 x3 x4 x5 : Rat} {W : World} {φ : Phi} (hφ : Fz φ W) (hp : PowP φ) (h0 : FrX φ (.agg #[.bool g0, .slice a0 k0 c0, .slice a0' k0' c0']) x0 M M) (h1 : FrX φ (.agg #[.bool g1, .slice a1 k1 c1, .slice a1' k1' c1']) x1 M M) (h2 : FrX φ (.agg #[.bool g2, .slice a2 k2 c2, .slice a2' k2' c2']) x2 M M) (h3 : FrX φ (.agg #[.bool g3, .slice a3 k3 c3, .slice a3' k3' c3']) x3 M M) (h4 : FrX φ (.agg #[.bool g4, .slice a4 k4 c4, .slice a4' k4' c4']) x4 M M) (h5 : FrX φ (.agg #[.bool g5, .slice a5 k5 c5, .slice a5' k5' c5']) x5 M M) {L : List Rti} {F : Int} (hR : Hid (shtR [x0, x1, x2, x3, x4, x5] = (L, F))) :
    Calls Tryz.prog 44 #[.slice (some ⟨W.heap.size, 0, none⟩) 6 6] (W.alloc (.cells #[.bool g0, .slice a0 k0 c0, .slice a0' k0' c0', .bool g1, .slice a1 k1 c1, .slice a1' k1' c1', .bool g2, .slice a2 k2 c2, .slice a2' k2' c2', .bool g3, .slice a3 k3 c3, .slice a3' k3' c3', .bool g4, .slice a4 k4 c4, .slice a4' k4' c4', .bool g5, .slice a5 k5 c5, .slice a5' k5' c5'] 46)) (SlPost (L, F) φ W) := by
  obtain ⟨φL, lL, iL, sL⟩ := SlV.lit (α := Rx M M) hφ 46 (xs := [⟨x0⟩, ⟨x1⟩, ⟨x2⟩, ⟨x3⟩, ⟨x4⟩, ⟨x5⟩]) (arr := #[.bool g0, .slice a0 k0 c0, .slice a0' k0' c0', .bool g1, .slice a1 k1 c1, .slice a1' k1' c1', .bool g2, .slice a2 k2 c2, .slice a2' k2' c2', .bool g3, .slice a3 k3 c3, .slice a3' k3' c3', .bool g4, .slice a4 k4 c4, .slice a4' k4' c4', .bool g5, .slice a5 k5 c5, .slice a5' k5' c5']) (RepL.six h0.rep h1.rep h2.rep h3.rep h4.rep h5.rep) (by show 6 ≤ maxLen; unfold maxLen; omega)
  refine (Rshut_any hD hM (Nat.le_refl _) (Nat.le_refl _) (n := 6) (xs := [x0, x1, x2, x3, x4, x5]) iL.fz (hp.mono lL) sL (Lib.hid rfl) (by decide) hR).mono ?_
  rintro e w' ⟨a, c, φ', rfl, hi, hs⟩
  exact ⟨a, c, φ', rfl, iL.call hi, hs⟩
theorem RTimes_B {T E : TypeId} {z : Array Value} {w0 W : World} {φ0 φ : Phi} {b : Nat} {m : List (Nat × Array Value)} {M : Nat} (hD : Hid (RdivOk M)) (hM : LenB M) {v1 v2 : Value} {x y : Rat} {N1 D1 N2 D2 : Nat} (h : Hid (BxS T z E w0 φ0 φ b m W)) (hv1 : FrX φ v1 x N1 D1) (hv2 : FrX φ v2 y N2 D2) (hM1 : N1 * N2 ≤ M) (hM2 : D1 * D2 ≤ M) (hM3 : N1 ≤ M) (hM4 : N2 ≤ M) :
    Calls Tryz.prog 23 #[v1, v2] W (fun e w' => ∃ v φ', e = .returned v ∧ Hid (BxS T z E w0 φ0 φ' b m w') ∧ Hid (FrX φ' v (x * y) (N1 * N2) (D1 * D2)) ∧ Hid (φ.le φ')) := by
  refine (RTimes_any hD hM h.out.r.inv.fz hv1 hv2 hM1 hM2 hM3 hM4).mono ?_
  rintro e w' ⟨v, φ', rfl, hi, hv⟩
  exact ⟨v, φ', rfl, Lib.hid (h.out.call hi), Lib.hid hv, Lib.hid hi.le⟩
theorem ROver_B {T E : TypeId} {z : Array Value} {w0 W : World} {φ0 φ : Phi} {b : Nat} {m : List (Nat × Array Value)} {M : Nat} (hD : Hid (RdivOk M)) (hM : LenB M) {v1 v2 : Value} {x y : Rat} {N1 D1 N2 D2 : Nat} (h : Hid (BxS T z E w0 φ0 φ b m W)) (hv1 : FrX φ v1 x N1 D1) (hv2 : FrX φ v2 y N2 D2) (hy : y ≠ 0) (hM1 : N1 * D2 ≤ M) (hM2 : D1 * N2 ≤ M) (hM3 : D2 ≤ M) :
    Calls Tryz.prog 33 #[v1, v2] W (fun e w' => ∃ v φ', e = .returned v ∧ Hid (BxS T z E w0 φ0 φ' b m w') ∧ Hid (FrX φ' v (x / y) (N1 * D2) (D1 * N2)) ∧ Hid (φ.le φ')) := by
  refine (ROver_any hD hM h.out.r.inv.fz hv1 hv2 hy hM1 hM2 hM3).mono ?_
  rintro e w' ⟨v, φ', rfl, hi, hv⟩
  exact ⟨v, φ', rfl, Lib.hid (h.out.call hi), Lib.hid hv, Lib.hid hi.le⟩
set_option maxRecDepth 100000 in
set_option maxHeartbeats 4000000 in
theorem RSpreadOf_any {M : Nat} (hD : Hid (RdivOk M)) (hM : LenB M) (hM2 : p10 2000 ≤ M) {n : Nat} (hB : Hid (n ≤ 3000 → SpB M 1000000000000 1000000000000 n)) {a : Option Addr} {cap : Nat} {l : List Psn} {w : World} {φ : Phi} (hφ : Fz φ w) (hp : PowP φ) (sl : SlV φ a cap l) (hn : Hid (l.length = n)) (hsz : Hid (∀ p ∈ l, PsnG p)) {L : List Rti} {F : Int} (hR : Hid (sprR l = (L, F))) :
    Calls Tryz.prog 13 #[.slice a n cap] w (fun e w' => e = .returned (.tuple #[sprV L, .int .i64 F]) ∧ Below w.heap.size w w') := by
  have HP := Lib.hid hp
  have HM2 := Lib.hid hM2
  have hnl : n ≤ 9223372036854775807 := by have := sl.capn; have := sl.capm; rw [hn.out] at *; unfold maxLen at *; omega
  obtain ⟨f, hf⟩ : ∃ f, Hid (pplF l = f) := ⟨_, Lib.hid rfl⟩
  have hRS := Lib.hid (RsSt.start (Inv.start hφ) #[Value.string ⟨#[]⟩, Value.string ⟨#[]⟩, Value.string ⟨#[]⟩, Value.string ⟨#[]⟩, Value.string ⟨#[]⟩, Value.string ⟨#[]⟩, Value.string ⟨#[]⟩, Value.string ⟨#[]⟩, Value.string ⟨#[]⟩, Value.string ⟨#[]⟩, Value.string ⟨#[]⟩, Value.string ⟨#[]⟩] 33)
  clear hφ hp hM2
  by_cases hf0 : f = 0
  case neg =>
    have hE : Hid (([], f) = (L, F)) := Lib.hid (by rw [← hR.out]; unfold sprR; rw [if_pos (by rw [hf.out]; exact hf0), hf.out])
    have h0i : (f == 0) = false := by simp [hf0]
    have h0j : (f != 0) = true := by simp [hf0]
    clear hf0 hB hR
    go_enter Tryz.func13, Tryz.ntmps13
    go_upto_region 1 with fail
    generalize w.alloc (.cells #[Value.string ⟨#[]⟩, Value.string ⟨#[]⟩, Value.string ⟨#[]⟩, Value.string ⟨#[]⟩, Value.string ⟨#[]⟩, Value.string ⟨#[]⟩, Value.string ⟨#[]⟩, Value.string ⟨#[]⟩, Value.string ⟨#[]⟩, Value.string ⟨#[]⟩, Value.string ⟨#[]⟩, Value.string ⟨#[]⟩] 33) = wx at *
    obtain ⟨b, hb⟩ : ∃ b, w.heap.size = b := ⟨_, rfl⟩
    rw [hb] at hRS ⊢
    have HB := Lib.hid hb
    clear hb
    go_upto_region 3 with (go_at_call 41; (with_reducible refine (checkAlone_any hD hM HM2.out hRS.out.inv.fz HP.out sl hn hsz hf).mono ?_); rintro e w1 ⟨rfl, hb1⟩; have hR1 := Lib.hid (hRS.out.callB hb1); clear hb1)
    obtain ⟨y0, z0, y1, z1, y2, z2, y3, z3, y4, z4, y5, z5, y6, z6, y7, z7, y8, z8, y9, z9, y10, z10, y11, z11⟩ := hR1.out.facts12
    go_wp2
    have hZ := Lib.hid (hR1.out.put12 (Value.string ⟨#[]⟩) (Value.string ⟨#[]⟩) (Value.string ⟨#[]⟩) (Value.string ⟨#[]⟩) (Value.string ⟨#[]⟩) (Value.string ⟨#[]⟩) (Value.string ⟨#[]⟩) (Value.string ⟨#[]⟩) (Value.string ⟨#[]⟩) (Value.string ⟨#[]⟩) (Value.string ⟨#[]⟩) (Value.string ⟨#[]⟩))
    have e0 : _ = some (Value.string ⟨#[]⟩) := hZ.out.k.cell 0
    have e1 : _ = some (Value.string ⟨#[]⟩) := hZ.out.k.cell 1
    have e2 : _ = some (Value.string ⟨#[]⟩) := hZ.out.k.cell 2
    have e3 : _ = some (Value.string ⟨#[]⟩) := hZ.out.k.cell 3
    have e4 : _ = some (Value.string ⟨#[]⟩) := hZ.out.k.cell 4
    have e5 : _ = some (Value.string ⟨#[]⟩) := hZ.out.k.cell 5
    have e6 : _ = some (Value.string ⟨#[]⟩) := hZ.out.k.cell 6
    have e7 : _ = some (Value.string ⟨#[]⟩) := hZ.out.k.cell 7
    have e8 : _ = some (Value.string ⟨#[]⟩) := hZ.out.k.cell 8
    have e9 : _ = some (Value.string ⟨#[]⟩) := hZ.out.k.cell 9
    have e10 : _ = some (Value.string ⟨#[]⟩) := hZ.out.k.cell 10
    have e11 : _ = some (Value.string ⟨#[]⟩) := hZ.out.k.cell 11
    (try simp only [Exit.inBlock, Exit.then])
    refine bodyPost_ret (v := .tuple #[.agg #[(Value.string ⟨#[]⟩), (Value.string ⟨#[]⟩), (Value.string ⟨#[]⟩), (Value.string ⟨#[]⟩), (Value.string ⟨#[]⟩), (Value.string ⟨#[]⟩), (Value.string ⟨#[]⟩), (Value.string ⟨#[]⟩), (Value.string ⟨#[]⟩), (Value.string ⟨#[]⟩), (Value.string ⟨#[]⟩), (Value.string ⟨#[]⟩)], .int .i64 f]) (by simp [results, Tryz.results13, go_sem, e0, e1, e2, e3, e4, e5, e6, e7, e8, e9, e10, e11]) rfl ?_
    have := hE.out
    injection this with e1 e2
    subst e1 e2
    exact ⟨rfl, hZ.out.inv.bel⟩
  case pos =>
    subst hf0
    obtain ⟨hn3', hall⟩ := pplF_ok hf.out
    rw [hn.out] at hn3' hall
    have hn3 := hn3'
    clear hn3'
    have hok : Hid (∀ p ∈ l, shoF p.1.1 p.1.2 = 0) := Lib.hid (fun p hpm => by
      obtain ⟨i, hi, e⟩ := List.getElem_of_mem hpm
      have := hall i (by rw [← hn.out]; exact hi)
      rw [getD_elem0 _ _ _ hi, e] at this
      exact (psnF_ok this).1)
    by_cases hn0 : n = 0
    case pos =>
      subst hn0
      have hE : Hid (([], 9) = (L, F)) := Lib.hid (by rw [← hR.out]; unfold sprR; rw [if_neg (by rw [hf.out]; decide), if_pos (List.eq_nil_of_length_eq_zero hn.out)])
      clear hB hR hall
      go_enter Tryz.func13, Tryz.ntmps13
      go_upto_region 1 with fail
      generalize w.alloc (.cells #[Value.string ⟨#[]⟩, Value.string ⟨#[]⟩, Value.string ⟨#[]⟩, Value.string ⟨#[]⟩, Value.string ⟨#[]⟩, Value.string ⟨#[]⟩, Value.string ⟨#[]⟩, Value.string ⟨#[]⟩, Value.string ⟨#[]⟩, Value.string ⟨#[]⟩, Value.string ⟨#[]⟩, Value.string ⟨#[]⟩] 33) = wx at *
      obtain ⟨b, hb⟩ : ∃ b, w.heap.size = b := ⟨_, rfl⟩
      rw [hb] at hRS ⊢
      have HB := Lib.hid hb
      clear hb
      go_upto_region 5 with (go_at_call 41; (with_reducible refine (checkAlone_any hD hM HM2.out hRS.out.inv.fz HP.out sl hn hsz hf).mono ?_); rintro e w1 ⟨rfl, hb1⟩; have hR1 := Lib.hid (hRS.out.callB hb1); clear hb1)
      obtain ⟨y0, z0, y1, z1, y2, z2, y3, z3, y4, z4, y5, z5, y6, z6, y7, z7, y8, z8, y9, z9, y10, z10, y11, z11⟩ := hR1.out.facts12
      go_wp2
      have hZ := Lib.hid (hR1.out.put12 (Value.string ⟨#[]⟩) (Value.string ⟨#[]⟩) (Value.string ⟨#[]⟩) (Value.string ⟨#[]⟩) (Value.string ⟨#[]⟩) (Value.string ⟨#[]⟩) (Value.string ⟨#[]⟩) (Value.string ⟨#[]⟩) (Value.string ⟨#[]⟩) (Value.string ⟨#[]⟩) (Value.string ⟨#[]⟩) (Value.string ⟨#[]⟩))
      have e0 : _ = some (Value.string ⟨#[]⟩) := hZ.out.k.cell 0
      have e1 : _ = some (Value.string ⟨#[]⟩) := hZ.out.k.cell 1
      have e2 : _ = some (Value.string ⟨#[]⟩) := hZ.out.k.cell 2
      have e3 : _ = some (Value.string ⟨#[]⟩) := hZ.out.k.cell 3
      have e4 : _ = some (Value.string ⟨#[]⟩) := hZ.out.k.cell 4
      have e5 : _ = some (Value.string ⟨#[]⟩) := hZ.out.k.cell 5
      have e6 : _ = some (Value.string ⟨#[]⟩) := hZ.out.k.cell 6
      have e7 : _ = some (Value.string ⟨#[]⟩) := hZ.out.k.cell 7
      have e8 : _ = some (Value.string ⟨#[]⟩) := hZ.out.k.cell 8
      have e9 : _ = some (Value.string ⟨#[]⟩) := hZ.out.k.cell 9
      have e10 : _ = some (Value.string ⟨#[]⟩) := hZ.out.k.cell 10
      have e11 : _ = some (Value.string ⟨#[]⟩) := hZ.out.k.cell 11
      (try simp only [Exit.inBlock, Exit.then])
      refine bodyPost_ret (v := .tuple #[.agg #[(Value.string ⟨#[]⟩), (Value.string ⟨#[]⟩), (Value.string ⟨#[]⟩), (Value.string ⟨#[]⟩), (Value.string ⟨#[]⟩), (Value.string ⟨#[]⟩), (Value.string ⟨#[]⟩), (Value.string ⟨#[]⟩), (Value.string ⟨#[]⟩), (Value.string ⟨#[]⟩), (Value.string ⟨#[]⟩), (Value.string ⟨#[]⟩)], .int .i64 9]) (by simp [results, Tryz.results13, go_sem, e0, e1, e2, e3, e4, e5, e6, e7, e8, e9, e10, e11]) rfl ?_
      have := hE.out
      injection this with e1 e2
      subst e1 e2
      exact ⟨rfl, hZ.out.inv.bel⟩
    case neg =>
      have hpos : Hid (0 < n) := Lib.hid (by omega)
      have h0i : ((n : Int) == 0) = false := by simp [hn0]
      obtain ⟨xs, hxs⟩ : ∃ xs, l.map (fun p => ratX p.1.1 p.1.2) = xs := ⟨_, rfl⟩
      have hxn : Hid (xs.length = n) := Lib.hid (by rw [← hxs, List.length_map, hn.out])
      have hnm : Hid ((xs.map (Rx.mk (N := 1000000000000) (D := 1000000000000))).length = n) := Lib.hid (by rw [List.length_map, hxn.out])
      have hW : l.map rxW = xs.map (Rx.mk (N := 1000000000000) (D := 1000000000000)) := by rw [← hxs, List.map_map]; rfl
      have hp0 : ∀ x ∈ xs, 0 < x := by
        intro x hx
        rw [← hxs] at hx
        obtain ⟨p, hpm, rfl⟩ := List.mem_map.1 hx
        obtain ⟨i, hi, e⟩ := List.getElem_of_mem hpm
        have := hall i (by rw [← hn.out]; exact hi)
        rw [getD_elem0 _ _ _ hi, e] at this
        exact (psnF_ok this).2
      have hne : xs ≠ [] := by intro e; have := hxn.out; rw [e] at this; simp at this; omega
      have hS0 := sumQ_pos hne hp0
      have hQ0 : 0 < sumQ (xs.map (fun x => x * x)) := sumQ_pos (by simpa using hne) (by
        intro y hy
        obtain ⟨x, hx, rfl⟩ := List.mem_map.1 hy
        exact Rat.mul_pos (hp0 x hx) (hp0 x hx))
      have hRR : sprR l = shtR (sprL xs) := by
        unfold sprR
        rw [if_neg (by rw [hf.out]; decide), if_neg (by intro e; subst e; have := hn.out; simp at this; omega), hxs]
      rw [hRR] at hR
      unfold sprL at hR
      rw [hxn.out] at hR
      clear hRR hne hp0 hall hn0 hxs
      obtain ⟨S, hS⟩ : ∃ S, Hid (sumQ xs = S) := ⟨_, Lib.hid rfl⟩
      obtain ⟨Q, hQ⟩ : ∃ S, Hid (sumQ (xs.map (fun x => x * x)) = S) := ⟨_, Lib.hid rfl⟩
      rw [hS.out] at hS0 hR
      rw [hQ.out] at hQ0 hR
      obtain ⟨E, hE⟩ : ∃ E, S * S / Q = E := ⟨_, rfl⟩
      have hE0 : E ≠ 0 := by
        intro e
        have h1 := Rat.div_mul_cancel (a := S * S) (b := Q) (by intro e2; rw [e2] at hQ0; exact absurd hQ0 (by decide))
        rw [hE, e, Rat.zero_mul] at h1
        have := Rat.mul_pos hS0 hS0
        rw [← h1] at this
        exact absurd this (by decide)
      rw [hE] at hR
      have HE0 := Lib.hid hE0
      have HE := Lib.hid hE
      have HQ0 := Lib.hid hQ0
      clear hE0 hE hS0 hQ0
      have HC7 := Lib.hid (fun W (hf9 : Fz φ W) => Rweights_any hf9 sl hn hn3 hok)
      rw [hW] at HC7
      clear hW hok
      have HB := Lib.hid (hB.out hn3)
      clear hB
      obtain ⟨N, hN⟩ : ∃ N, N = 1000000000000 := ⟨_, rfl⟩
      rw [← hN] at HC7 hnm HB
      have hN1 : 1 ≤ N := by omega
      clear hN
      go_enter Tryz.func13, Tryz.ntmps13
      go_upto_region 1 with fail
      generalize w.alloc (.cells #[Value.string ⟨#[]⟩, Value.string ⟨#[]⟩, Value.string ⟨#[]⟩, Value.string ⟨#[]⟩, Value.string ⟨#[]⟩, Value.string ⟨#[]⟩, Value.string ⟨#[]⟩, Value.string ⟨#[]⟩, Value.string ⟨#[]⟩, Value.string ⟨#[]⟩, Value.string ⟨#[]⟩, Value.string ⟨#[]⟩] 33) = wx at *
      obtain ⟨b, hb⟩ : ∃ b, w.heap.size = b := ⟨_, rfl⟩
      rw [hb] at hRS ⊢
      have HBB := Lib.hid hb
      clear hb
      go_upto_region 7 with (first
        | (go_at_call 42; (with_reducible refine (HC7.out _ hR1.out.inv.fz).mono ?_); rintro e w2 ⟨a1, c1, φ1, rfl, hi2, s1⟩; rw [hnm.out]; have hR2 := Lib.hid (hR1.out.call hi2); have S1 := Lib.hid s1; have L1 := Lib.hid hi2.le; clear hi2 s1)
        | (go_at_call 41; (with_reducible refine (checkAlone_any hD hM HM2.out hRS.out.inv.fz HP.out sl hn hsz hf).mono ?_); rintro e w1 ⟨rfl, hb1⟩; have hR1 := Lib.hid (hRS.out.callB hb1); clear hb1))
      obtain ⟨b1, o1, rfl, f1⟩ := S1.out.rxD hnm hpos.out
      obtain ⟨g0, p0, k0, q0, p1, k1, q1, hx0, ff⟩ := f1 0 hpos.out
      have hR2d := Lib.hid (hR2.out.callB (bdrewN (Below.refl _ w2) 1))
      obtain ⟨d0, d1, d2⟩ := ff w2.drew hR2d.out.inv.fz
      have hposn : 0 < n := hpos.out
      rw [rx_getD] at hx0
      rw [Nat.zero_mul, Nat.add_zero] at d0 d1 d2
      have HX0 := Lib.hid hx0
      have hposi : (0 : Int) < n := by have := hpos.out; omega
      clear f1 hx0 HC7 hRS hR1
      apply wp_region_cutV (fun (i : Nat × Nat × Nat × Bool × Option Addr × Nat × Nat × Option Addr × Nat × Nat) => [(28, .slice (some ⟨b1, o1, none⟩) n c1), (29, .pointer (some ⟨b1, o1, none⟩)), (30, .agg #[.bool g0, .slice p0 k0 q0, .slice p1 k1 q1]), (31, .slice (some ⟨b1, o1, none⟩) n c1), (32, .pointer (some ⟨b1, o1, none⟩)), (33, .agg #[.bool g0, .slice p0 k0 q0, .slice p1 k1 q1]), (34, .agg #[.bool i.2.2.2.1, .slice i.2.2.2.2.1 i.2.2.2.2.2.1 i.2.2.2.2.2.2.1, .slice i.2.2.2.2.2.2.2.1 i.2.2.2.2.2.2.2.2.1 i.2.2.2.2.2.2.2.2.2]), (6, .pointer (some ⟨i.1, 0, none⟩)), (7, .pointer (some ⟨i.2.1, 0, none⟩)), (8, .pointer (some ⟨i.2.2.1, 0, none⟩))])
        (fun i W => Hid (∃ φ3, φ1.le φ3 ∧ BxS 33 #[Value.string ⟨#[]⟩, Value.string ⟨#[]⟩, Value.string ⟨#[]⟩, Value.string ⟨#[]⟩, Value.string ⟨#[]⟩, Value.string ⟨#[]⟩, Value.string ⟨#[]⟩, Value.string ⟨#[]⟩, Value.string ⟨#[]⟩, Value.string ⟨#[]⟩, Value.string ⟨#[]⟩, Value.string ⟨#[]⟩] 46 w φ φ3 b [(i.1, #[.bool g0, .slice p0 k0 q0, .slice p1 k1 q1]), (i.2.1, #[.bool g0, .slice p0 k0 q0, .slice p1 k1 q1]), (i.2.2.1, #[.bool i.2.2.2.1, .slice i.2.2.2.2.1 i.2.2.2.2.2.1 i.2.2.2.2.2.2.1, .slice i.2.2.2.2.2.2.2.1 i.2.2.2.2.2.2.2.2.1 i.2.2.2.2.2.2.2.2.2])] W ∧ FrX φ3 (.agg #[.bool i.2.2.2.1, .slice i.2.2.2.2.1 i.2.2.2.2.2.1 i.2.2.2.2.2.2.1, .slice i.2.2.2.2.2.2.2.1 i.2.2.2.2.2.2.2.2.1 i.2.2.2.2.2.2.2.2.2]) 0 0 1))
      case h1 =>
        intro KK hKK
        have hb1l : b1 < w2.heap.size := block_lt_of_cell (show w2.cell? ⟨b1, o1, none⟩ = some (.bool g0) from d0)
        have e0 : w2.cell? ⟨b1, o1, none⟩ = some (.bool g0) := d0
        have e1 : w2.cell? ⟨b1, o1 + 1, none⟩ = some (.slice p0 k0 q0) := d1
        have e2 : w2.cell? ⟨b1, o1 + 2, none⟩ = some (.slice p1 k1 q1) := d2
        have B0 : Hid (BxS 33 #[Value.string ⟨#[]⟩, Value.string ⟨#[]⟩, Value.string ⟨#[]⟩, Value.string ⟨#[]⟩, Value.string ⟨#[]⟩, Value.string ⟨#[]⟩, Value.string ⟨#[]⟩, Value.string ⟨#[]⟩, Value.string ⟨#[]⟩, Value.string ⟨#[]⟩, Value.string ⟨#[]⟩, Value.string ⟨#[]⟩] 46 w φ φ1 b [] w2.drew) := Lib.hid (BxS.nil hR2.out).drew
        have B1 : Hid (BxS 33 #[Value.string ⟨#[]⟩, Value.string ⟨#[]⟩, Value.string ⟨#[]⟩, Value.string ⟨#[]⟩, Value.string ⟨#[]⟩, Value.string ⟨#[]⟩, Value.string ⟨#[]⟩, Value.string ⟨#[]⟩, Value.string ⟨#[]⟩, Value.string ⟨#[]⟩, Value.string ⟨#[]⟩, Value.string ⟨#[]⟩] 46 w φ φ1 b [(w2.heap.size, #[Value.bool false, Value.slice none 0 0, Value.slice none 0 0])] (w2.alloc (.cells #[Value.bool false, Value.slice none 0 0, Value.slice none 0 0] 46)).drew) := Lib.hid ((BxS.nil hR2.out).alloc _).drew
        have B2 : Hid (BxS 33 #[Value.string ⟨#[]⟩, Value.string ⟨#[]⟩, Value.string ⟨#[]⟩, Value.string ⟨#[]⟩, Value.string ⟨#[]⟩, Value.string ⟨#[]⟩, Value.string ⟨#[]⟩, Value.string ⟨#[]⟩, Value.string ⟨#[]⟩, Value.string ⟨#[]⟩, Value.string ⟨#[]⟩, Value.string ⟨#[]⟩] 46 w φ φ1 b [(w2.heap.size + 1, #[Value.bool false, Value.slice none 0 0, Value.slice none 0 0]), (w2.heap.size, #[Value.bool false, Value.slice none 0 0, Value.slice none 0 0])] ((w2.alloc (.cells #[Value.bool false, Value.slice none 0 0, Value.slice none 0 0] 46)).alloc (.cells #[Value.bool false, Value.slice none 0 0, Value.slice none 0 0] 46)).drew) := Lib.hid (by have := (((BxS.nil (E := 46) hR2.out).alloc #[Value.bool false, Value.slice none 0 0, Value.slice none 0 0]).alloc #[Value.bool false, Value.slice none 0 0, Value.slice none 0 0]).drew; rw [alloc_sz] at this; exact this)
        have B3 : Hid (BxS 33 #[Value.string ⟨#[]⟩, Value.string ⟨#[]⟩, Value.string ⟨#[]⟩, Value.string ⟨#[]⟩, Value.string ⟨#[]⟩, Value.string ⟨#[]⟩, Value.string ⟨#[]⟩, Value.string ⟨#[]⟩, Value.string ⟨#[]⟩, Value.string ⟨#[]⟩, Value.string ⟨#[]⟩, Value.string ⟨#[]⟩] 46 w φ φ1 b [(w2.heap.size + 1 + 1, #[Value.bool false, Value.slice none 0 0, Value.slice none 0 0]), (w2.heap.size + 1, #[Value.bool false, Value.slice none 0 0, Value.slice none 0 0]), (w2.heap.size, #[Value.bool false, Value.slice none 0 0, Value.slice none 0 0])] (((w2.alloc (.cells #[Value.bool false, Value.slice none 0 0, Value.slice none 0 0] 46)).alloc (.cells #[Value.bool false, Value.slice none 0 0, Value.slice none 0 0] 46)).alloc (.cells #[Value.bool false, Value.slice none 0 0, Value.slice none 0 0] 46)).drew) := Lib.hid (by have := ((((BxS.nil (E := 46) hR2.out).alloc #[Value.bool false, Value.slice none 0 0, Value.slice none 0 0]).alloc #[Value.bool false, Value.slice none 0 0, Value.slice none 0 0]).alloc #[Value.bool false, Value.slice none 0 0, Value.slice none 0 0]).drew; rw [alloc_sz, alloc_sz] at this; exact this)
        go_region_held3 (fun w' => w'.cell? ⟨b1, o1, none⟩ = some (.bool g0) ∧ w'.cell? ⟨b1, o1 + 1, none⟩ = some (.slice p0 k0 q0) ∧ w'.cell? ⟨b1, o1 + 2, none⟩ = some (.slice p1 k1 q1)) (refine ⟨?_, ?_, ?_⟩ <;> (repeat (first | with_reducible assumption | with_reducible apply keepAP | with_reducible apply keepDr | (refine keep3 ?_ (by simp only [alloc_sz]; omega))))) (first | ((first | (with_reducible refine (RWhole_B B0).mono ?_) | (with_reducible refine (RWhole_B B1).mono ?_) | (with_reducible refine (RWhole_B B2).mono ?_) | (with_reducible refine (RWhole_B B3).mono ?_)); rintro e w4 ⟨v4, φ4, rfl, hB4, hV4, hL4⟩; obtain ⟨g4, n4, m4, k4, k4', a4, c4, a4', c4', rfl, _⟩ := hV4.out.open; obtain ⟨h0, h1, h2⟩ := ff w4 (hB4.out.r.inv.fz.sub hL4.out); rw [Nat.zero_mul, Nat.add_zero] at h0 h1 h2; (try (have vv0 := hB4.out.get 0 rfl; have vl0 := (hB4.out.a 0 _ _ rfl).1.k.lt; obtain ⟨v00, v01, v02, v03, v04, v05⟩ := vv0)); (try (have vv1 := hB4.out.get 1 rfl; have vl1 := (hB4.out.a 1 _ _ rfl).1.k.lt; obtain ⟨v10, v11, v12, v13, v14, v15⟩ := vv1)); (try (have vv2 := hB4.out.get 2 rfl; have vl2 := (hB4.out.a 2 _ _ rfl).1.k.lt; obtain ⟨v20, v21, v22, v23, v24, v25⟩ := vv2))))
        all_goals
          refine onlyN_mk ?_
          have hk := fun x y q W s => hKK.out (x, y, q, g4, a4, k4, c4, a4', k4', c4') W s
          simp only [updA, List.foldl_cons, List.foldl_nil, List.setIfInBounds_toArray, List.set_cons_succ, List.set_cons_zero] at hk
          refine hk _ _ _ _ (Lib.hid ⟨φ4, hL4.out, ?_, hV4.out⟩)
          first
            | with_reducible exact hB4.out.end0
            | with_reducible exact hB4.out.end0.p1
            | with_reducible exact hB4.out.end0.p2
            | with_reducible exact hB4.out.end0.p3
            | with_reducible exact hB4.out.end0.p4
            | with_reducible exact hB4.out.end0.p5
            | with_reducible exact hB4.out.end1
            | with_reducible exact hB4.out.end1.p1
            | with_reducible exact hB4.out.end1.p2
            | with_reducible exact hB4.out.end1.p3
            | with_reducible exact hB4.out.end1.p4
            | with_reducible exact hB4.out.end1.p5
            | with_reducible exact hB4.out.end2a
            | with_reducible exact hB4.out.end2a.p1
            | with_reducible exact hB4.out.end2a.p2
            | with_reducible exact hB4.out.end2a.p3
            | with_reducible exact hB4.out.end2a.p4
            | with_reducible exact hB4.out.end2a.p5
            | with_reducible exact hB4.out.end2b
            | with_reducible exact hB4.out.end2b.p1
            | with_reducible exact hB4.out.end2b.p2
            | with_reducible exact hB4.out.end2b.p3
            | with_reducible exact hB4.out.end2b.p4
            | with_reducible exact hB4.out.end2b.p5
            | with_reducible exact hB4.out.end30
            | with_reducible exact hB4.out.end31
            | with_reducible exact hB4.out.end32
            | with_reducible exact hB4.out.end33
            | with_reducible exact hB4.out.end34
            | with_reducible exact hB4.out.end35
            | with_reducible exact hB4.out.end30.p1
            | with_reducible exact hB4.out.end30.p2
            | with_reducible exact hB4.out.end30.p3
            | with_reducible exact hB4.out.end30.p4
            | with_reducible exact hB4.out.end30.p5
            | with_reducible exact hB4.out.end31.p1
            | with_reducible exact hB4.out.end31.p2
            | with_reducible exact hB4.out.end31.p3
            | with_reducible exact hB4.out.end31.p4
            | with_reducible exact hB4.out.end31.p5
            | with_reducible exact hB4.out.end32.p1
            | with_reducible exact hB4.out.end32.p2
            | with_reducible exact hB4.out.end32.p3
            | with_reducible exact hB4.out.end32.p4
            | with_reducible exact hB4.out.end32.p5
            | with_reducible exact hB4.out.end33.p1
            | with_reducible exact hB4.out.end33.p2
            | with_reducible exact hB4.out.end33.p3
            | with_reducible exact hB4.out.end33.p4
            | with_reducible exact hB4.out.end33.p5
            | with_reducible exact hB4.out.end34.p1
            | with_reducible exact hB4.out.end34.p2
            | with_reducible exact hB4.out.end34.p3
            | with_reducible exact hB4.out.end34.p4
            | with_reducible exact hB4.out.end34.p5
            | with_reducible exact hB4.out.end35.p1
            | with_reducible exact hB4.out.end35.p2
            | with_reducible exact hB4.out.end35.p3
            | with_reducible exact hB4.out.end35.p4
            | with_reducible exact hB4.out.end35.p5
      case h2 =>
        rintro ⟨bl, bm, bq, g4, a4, k4, c4, a4', k4', c4'⟩ W9 hF9
        simp only [updA, List.foldl_cons, List.foldl_nil, List.setIfInBounds_toArray, List.set_cons_succ, List.set_cons_zero]
        obtain ⟨φ3, hle3, hB9, hV9⟩ := hF9.out
        have HB9 := Lib.hid hB9
        have HV9 : Hid (FrX φ3 (.agg #[.bool g4, .slice a4 k4 c4, .slice a4' k4' c4']) (sumQ ((xs.map (fun x => x * x)).take 0)) (0 * (N * N) * (N * N) ^ 0) ((N * N) ^ 0)) := Lib.hid (by
          have h := hV9.le (Nat.zero_le (0 * (N * N) * (N * N) ^ 0)) (Nat.le_of_eq (by simp : 1 = (N * N) ^ 0))
          exact h)
        have HL0 : Hid (FrX φ3 (.agg #[.bool g0, .slice p0 k0 q0, .slice p1 k1 q1]) (lowK xs 0) N N) := Lib.hid (HX0.out.mono hle3)
        have HT0 : Hid (FrX φ3 (.agg #[.bool g0, .slice p0 k0 q0, .slice p1 k1 q1]) (topK xs 0) N N) := Lib.hid (HX0.out.mono hle3)
        have HLE3 := Lib.hid hle3
        have hsqn : Hid ((xs.map (fun x => x * x)).length = n) := Lib.hid (by rw [List.length_map, hxn.out])
        have hNN1 : 1 ≤ N * N := Nat.mul_le_mul hN1 hN1
        have hbd : Hid (∀ k, k < n → k * (N * N) * (N * N) ^ k * (N * N) + N * N * (N * N) ^ k ≤ M ∧ (N * N) ^ k * (N * N) ≤ M ∧ k * (N * N) * (N * N) ^ k * (N * N) + N * N * (N * N) ^ k ≤ (k + 1) * (N * N) * (N * N) ^ (k + 1) ∧ (N * N) ^ k * (N * N) = (N * N) ^ (k + 1)) := Lib.hid (fun k hk =>
          ⟨Nat.le_trans (sumB_step hNN1) (Nat.le_trans (sumB_mono hNN1 hk) HB.out.e.a3), by rw [← Nat.pow_succ]; exact Nat.le_trans (powB_mono hNN1 hk) HB.out.e.a4, sumB_step hNN1, (Nat.pow_succ ..).symm⟩)
        have hsq : Hid (∀ k, k < n → sumQ ((xs.map (fun x => x * x)).take (k + 1)) = sumQ ((xs.map (fun x => x * x)).take k) + xs.getD k 0 * xs.getD k 0) := Lib.hid (fun k hk => by
          rw [sumQ_step hsqn.out hk]
          congr 1
          have h1 : k < xs.length := by rw [hxn.out]; exact hk
          simp [List.getD_eq_getElem?_getD, List.getElem?_map, h1])
        have M9 := Lib.hid (And.intro HB.out.e.a9 HB.out.e.a11)
        clear hR2 hR2d d0 d1 d2 hF9 hle3 hB9 hV9 ff hNN1
        go_wp2
        go_loopw [37] (fun iv wr => ∃ (k : Nat) (φ' : Phi) (g1 : Bool) (a1 : Option Addr) (k1 c1 : Nat) (a2 : Option Addr) (k2 c2 : Nat) (g2 : Bool) (a3 : Option Addr) (k3 c3 : Nat) (a4 : Option Addr) (k4 c4 : Nat) (g3 : Bool) (a5 : Option Addr) (k5 c5 : Nat) (a6 : Option Addr) (k6 c6 : Nat), k ≤ n ∧ iv = .int .i64 (k : Int) ∧ Hid (φ1.le φ') ∧ Hid (BxS 33 #[Value.string ⟨#[]⟩, Value.string ⟨#[]⟩, Value.string ⟨#[]⟩, Value.string ⟨#[]⟩, Value.string ⟨#[]⟩, Value.string ⟨#[]⟩, Value.string ⟨#[]⟩, Value.string ⟨#[]⟩, Value.string ⟨#[]⟩, Value.string ⟨#[]⟩, Value.string ⟨#[]⟩, Value.string ⟨#[]⟩] 46 w φ φ' b [(bl, #[.bool g1, .slice a1 k1 c1, .slice a2 k2 c2]), (bm, #[.bool g2, .slice a3 k3 c3, .slice a4 k4 c4]), (bq, #[.bool g3, .slice a5 k5 c5, .slice a6 k6 c6])] wr) ∧ Hid (FrX φ' (.agg #[.bool g1, .slice a1 k1 c1, .slice a2 k2 c2]) (lowK xs k) N N) ∧ Hid (FrX φ' (.agg #[.bool g2, .slice a3 k3 c3, .slice a4 k4 c4]) (topK xs k) N N) ∧ Hid (FrX φ' (.agg #[.bool g3, .slice a5 k5 c5, .slice a6 k6 c6]) (sumQ ((xs.map (fun x => x * x)).take k)) (k * (N * N) * (N * N) ^ k) ((N * N) ^ k))) (fun iv _ => n - (intOf iv).toNat)
        case atStart => exact ⟨0, φ3, g0, p0, k0, q0, p1, k1, q1, g0, p0, k0, q0, p1, k1, q1, g4, a4, k4, c4, a4', k4', c4', Nat.zero_le _, rfl, HLE3, HB9, HL0, HT0, HV9⟩
        case round =>
          clear HLE3 HB9 HL0 HT0 HV9 HX0
          obtain ⟨k, φ', g1, a1, k1, c1, a2, k2, c2, g2, a3, k3, c3, a4, k4, c4, g3, a5, k5, c5, a6, k6, c6, hk, rfl, hle, hS5, hV5, hU5, hQ5⟩ := hrel
          by_cases hlt : k < n
          · have hlti : (k : Int) < (n : Int) := by omega
            obtain ⟨b1', o1', e1', f⟩ := S1.out.rxD hnm hlt
            cases e1'
            obtain ⟨gx, ax, kx, cx, ay, ky, cy, hx, f2⟩ := f k hlt
            obtain ⟨d0, d1, d2⟩ := f2 wr (hS5.out.r.inv.fz.sub hle.out)
            rw [rx_getD] at hx
            have HX := Lib.hid (hx.mono hle.out)
            obtain ⟨q1, hq1⟩ : ∃ q, Hid (cmpQ (xs.getD k 0) (lowK xs k) = q) := ⟨_, Lib.hid rfl⟩
            obtain ⟨q2, hq2⟩ : ∃ q, Hid (cmpQ (xs.getD k 0) (topK xs k) = q) := ⟨_, Lib.hid rfl⟩
            have hS6 := Lib.hid (hS5.out.callB ((Below.refl _ _).alloc (Nat.le_refl _) (.cells #[.bool gx, .slice ax kx cx, .slice ay ky cy] 46)))
            have KN := Lib.hid (Blk.new wr #[.bool gx, .slice ax kx cx, .slice ay ky cy] 46)
            have hnl1 : bl ≠ wr.heap.size := by have := (hS5.out.a 0 _ _ rfl).1.k.lt; omega
            have hnm1 : bm ≠ wr.heap.size := by have := (hS5.out.a 1 _ _ rfl).1.k.lt; omega
            have hnq1 : bq ≠ wr.heap.size := by have := (hS5.out.a 2 _ _ rfl).1.k.lt; omega
            have HNL := Lib.hid hnl1
            have HNM := Lib.hid hnm1
            have HNQ := Lib.hid hnq1
            have HBD := Lib.hid (hbd.out k hlt)
            have HSQ := Lib.hid (hsq.out k hlt)
            clear f f2 hx hS5 hnl1 hnm1 hnq1
            go_upto_region 11 with fail
            generalize wr.alloc (.cells #[.bool gx, .slice ax kx cx, .slice ay ky cy] 46) = wa at *
            generalize wr.heap.size = b5 at *
            obtain ⟨z0, z1, z2, _, _, _⟩ := hS6.out.get 0 rfl
            have u0 : wa.cell? ⟨b5, 0, none⟩ = some (.bool gx) := KN.out.cell 0
            have u1 : wa.cell? ⟨b5, 1, none⟩ = some (.slice ax kx cx) := KN.out.cell 1
            have u2 : wa.cell? ⟨b5, 2, none⟩ = some (.slice ay ky cy) := KN.out.cell 2
            clear d0 d1 d2
            go_upto_if 44 with (go_at_call 24; (with_reducible refine (ROrder_any hD hM hS6.out.r.inv.fz HX.out hV5.out HB.out.a4 HB.out.e.a10 hq1).mono ?_); rintro e w7 ⟨rfl, hb7⟩; have S7 := Lib.hid (hS6.out.callB hb7); have K7 := Lib.hid (KN.out.callB hb7); clear hb7)
            clear z0 z1 z2 u0 u1 u2
            go_cut [] (fun wc => ∃ (h1 : Bool) (i1 : Option Addr) (j1 d1 : Nat) (i2 : Option Addr) (j2 d2 : Nat), Hid (BxS 33 #[Value.string ⟨#[]⟩, Value.string ⟨#[]⟩, Value.string ⟨#[]⟩, Value.string ⟨#[]⟩, Value.string ⟨#[]⟩, Value.string ⟨#[]⟩, Value.string ⟨#[]⟩, Value.string ⟨#[]⟩, Value.string ⟨#[]⟩, Value.string ⟨#[]⟩, Value.string ⟨#[]⟩, Value.string ⟨#[]⟩] 46 w φ φ' b [(bl, #[.bool h1, .slice i1 j1 d1, .slice i2 j2 d2]), (bm, #[.bool g2, .slice a3 k3 c3, .slice a4 k4 c4]), (bq, #[.bool g3, .slice a5 k5 c5, .slice a6 k6 c6])] wc) ∧ Hid (Blk wc b5 #[.bool gx, .slice ax kx cx, .slice ay ky cy] 46) ∧ Hid (FrX φ' (.agg #[.bool h1, .slice i1 j1 d1, .slice i2 j2 d2]) (lowK xs (k + 1)) N N))
            case first =>
              have r0 : w7.cell? ⟨b5, 0, none⟩ = some (.bool gx) := K7.out.cell 0
              have r1 : w7.cell? ⟨b5, 1, none⟩ = some (.slice ax kx cx) := K7.out.cell 1
              have r2 : w7.cell? ⟨b5, 2, none⟩ = some (.slice ay ky cy) := K7.out.cell 2
              obtain ⟨r3, r4, r5, r6, r7, r8⟩ := S7.out.get 0 rfl
              by_cases hn1 : q1 < 0
              · have PL : Hid (FrX φ' (.agg #[.bool gx, .slice ax kx cx, .slice ay ky cy]) (lowK xs (k + 1)) N N) := Lib.hid (by rw [lowK_lt hq1.out hn1]; exact HX.out)
                go_wp2
                go_meet
                case rel => exact ⟨gx, ax, kx, cx, ay, ky, cy, Lib.hid (S7.out.setX (.bool gx) (.slice ax kx cx) (.slice ay ky cy)), Lib.hid (((K7.out.other (a := ⟨bl, 0, none⟩) HNL.out (.bool gx)).other (a := ⟨bl, 1, none⟩) HNL.out (.slice ax kx cx)).other (a := ⟨bl, 2, none⟩) HNL.out (.slice ay ky cy)), PL⟩
              · have PL : Hid (FrX φ' (.agg #[.bool g1, .slice a1 k1 c1, .slice a2 k2 c2]) (lowK xs (k + 1)) N N) := Lib.hid (by rw [lowK_ge hq1.out hn1]; exact hV5.out)
                go_wp2
                go_meet
                case rel => exact ⟨g1, a1, k1, c1, a2, k2, c2, S7, K7, PL⟩
            case rest =>
            obtain ⟨h1, i1, j1, d1, i2, j2, d2, S8, K8, PL⟩ := hcut
            clear S7 K7 hS6 KN hV5 hq1 HNL
            generalize wc = w8 at *
            have v0 : w8.cell? ⟨b5, 0, none⟩ = some (.bool gx) := K8.out.cell 0
            have v1 : w8.cell? ⟨b5, 1, none⟩ = some (.slice ax kx cx) := K8.out.cell 1
            have v2 : w8.cell? ⟨b5, 2, none⟩ = some (.slice ay ky cy) := K8.out.cell 2
            obtain ⟨v3, v4, v5, _, _, _⟩ := S8.out.get 1 rfl
            go_upto_if 49 with (go_at_call 24; (with_reducible refine (ROrder_any hD hM S8.out.r.inv.fz HX.out hU5.out HB.out.a4 HB.out.e.a10 hq2).mono ?_); rintro e w9 ⟨rfl, hb9⟩; have S9 := Lib.hid (S8.out.callB hb9); have K9 := Lib.hid (K8.out.callB hb9); clear hb9)
            clear v0 v1 v2 v3 v4 v5
            go_cut [] (fun wc => ∃ (h2 : Bool) (i3 : Option Addr) (j3 d3 : Nat) (i4 : Option Addr) (j4 d4 : Nat), Hid (BxS 33 #[Value.string ⟨#[]⟩, Value.string ⟨#[]⟩, Value.string ⟨#[]⟩, Value.string ⟨#[]⟩, Value.string ⟨#[]⟩, Value.string ⟨#[]⟩, Value.string ⟨#[]⟩, Value.string ⟨#[]⟩, Value.string ⟨#[]⟩, Value.string ⟨#[]⟩, Value.string ⟨#[]⟩, Value.string ⟨#[]⟩] 46 w φ φ' b [(bl, #[.bool h1, .slice i1 j1 d1, .slice i2 j2 d2]), (bm, #[.bool h2, .slice i3 j3 d3, .slice i4 j4 d4]), (bq, #[.bool g3, .slice a5 k5 c5, .slice a6 k6 c6])] wc) ∧ Hid (Blk wc b5 #[.bool gx, .slice ax kx cx, .slice ay ky cy] 46) ∧ Hid (FrX φ' (.agg #[.bool h2, .slice i3 j3 d3, .slice i4 j4 d4]) (topK xs (k + 1)) N N))
            case first =>
              have r0 : w9.cell? ⟨b5, 0, none⟩ = some (.bool gx) := K9.out.cell 0
              have r1 : w9.cell? ⟨b5, 1, none⟩ = some (.slice ax kx cx) := K9.out.cell 1
              have r2 : w9.cell? ⟨b5, 2, none⟩ = some (.slice ay ky cy) := K9.out.cell 2
              obtain ⟨r3, r4, r5, r6, r7, r8⟩ := S9.out.get 1 rfl
              by_cases hn2 : 0 < q2
              · have PT : Hid (FrX φ' (.agg #[.bool gx, .slice ax kx cx, .slice ay ky cy]) (topK xs (k + 1)) N N) := Lib.hid (by rw [topK_gt hq2.out hn2]; exact HX.out)
                go_wp2
                go_meet
                case rel => exact ⟨gx, ax, kx, cx, ay, ky, cy, Lib.hid (S9.out.setY (.bool gx) (.slice ax kx cx) (.slice ay ky cy)), Lib.hid (((K9.out.other (a := ⟨bm, 0, none⟩) HNM.out (.bool gx)).other (a := ⟨bm, 1, none⟩) HNM.out (.slice ax kx cx)).other (a := ⟨bm, 2, none⟩) HNM.out (.slice ay ky cy)), PT⟩
              · have PT : Hid (FrX φ' (.agg #[.bool g2, .slice a3 k3 c3, .slice a4 k4 c4]) (topK xs (k + 1)) N N) := Lib.hid (by rw [topK_le hq2.out hn2]; exact hU5.out)
                go_wp2
                go_meet
                case rel => exact ⟨g2, a3, k3, c3, a4, k4, c4, S9, K9, PT⟩
            case rest =>
            obtain ⟨h2, i3, j3, d3, i4, j4, d4, SA, KA, PT⟩ := hcut
            clear S9 K9 S8 K8 hU5 hq2 HNM
            generalize wc = wz at *
            go_upto_region 15 with fail
            have SAd := Lib.hid SA.out.drew
            obtain ⟨v0, v1, v2, v3, v4, v5⟩ := SAd.out.get 2 rfl
            have v6 : wz.drew.cell? ⟨b5, 0, none⟩ = some (.bool gx) := KA.out.cell 0
            have v7 : wz.drew.cell? ⟨b5, 1, none⟩ = some (.slice ax kx cx) := KA.out.cell 1
            have v8 : wz.drew.cell? ⟨b5, 2, none⟩ = some (.slice ay ky cy) := KA.out.cell 2
            have v0' : wz.cell? ⟨bq, 0, none⟩ = some (.bool g3) := v0
            have v1' : wz.cell? ⟨bq, 1, none⟩ = some (.slice a5 k5 c5) := v1
            have v2' : wz.cell? ⟨bq, 2, none⟩ = some (.slice a6 k6 c6) := v2
            have v6' : wz.cell? ⟨b5, 0, none⟩ = some (.bool gx) := v6
            have v7' : wz.cell? ⟨b5, 1, none⟩ = some (.slice ax kx cx) := v7
            have v8' : wz.cell? ⟨b5, 2, none⟩ = some (.slice ay ky cy) := v8
            go_region_with (first
              | ((with_reducible refine (RPlus_any hD hM SB.out.r.inv.fz (hQ5.out.mono LB.out) VB.out HBD.out.1 HBD.out.2.1).mono ?_); rintro e wC ⟨vC, φC, rfl, hiC, hvC⟩; obtain ⟨gC, nC, mC, kC, kC', aC, cC, aC', cC', rfl, _⟩ := hvC.open; have SC := Lib.hid (SB.out.call hiC); have LC := Lib.hid (LB.out.trans hiC.le); have VC := Lib.hid (hvC.le HBD.out.2.2.1 (Nat.le_of_eq HBD.out.2.2.2)); obtain ⟨r0, r1, r2, r3, r4, r5⟩ := SC.out.get 2 rfl; clear hiC hvC)
              | ((with_reducible refine (RTimes_any hD hM SAd.out.r.inv.fz HX.out HX.out M9.out.1 M9.out.1 M9.out.2 M9.out.2).mono ?_); rintro e wB ⟨vB, φB, rfl, hiB, hvB⟩; obtain ⟨gB, nB, mB, kB, kB', aB, cB, aB', cB', rfl, _⟩ := hvB.open; have SB := Lib.hid (SAd.out.call hiB); have LB := Lib.hid hiB.le; have VB := Lib.hid hvB; obtain ⟨s0, s1, s2, s3, s4, s5⟩ := SB.out.get 2 rfl; clear hiB hvB))
            all_goals
              clear v0 v1 v2 v3 v4 v5 v6 v7 v8 v0' v1' v2' v6' v7' v8' r0 r1 r2 r3 r4 r5 s0 s1 s2 s3 s4 s5
              have PQ : Hid (FrX φC (.agg #[.bool gC, .slice aC kC cC, .slice aC' kC' cC']) (sumQ ((xs.map (fun x => x * x)).take (k + 1))) ((k + 1) * (N * N) * (N * N) ^ (k + 1)) ((N * N) ^ (k + 1))) := Lib.hid (by rw [HSQ.out]; exact VC.out)
              have SD := Lib.hid (SC.out.setQ (.bool gC) (.slice aC kC cC) (.slice aC' kC' cC'))
              go_wp2
              go_roundw
              case rel => exact ⟨k + 1, φC, h1, i1, j1, d1, i2, j2, d2, h2, i3, j3, d3, i4, j4, d4, gC, aC, kC, cC, aC', kC', cC', by omega, by go_num, Lib.hid (hle.out.trans LC.out), SD, Lib.hid (PL.out.mono LC.out), Lib.hid (PT.out.mono LC.out), PQ⟩
              case measure => (simp [intOf] <;> omega)
          · obtain rfl : k = n := by omega
            have hall : (xs.map (fun x => x * x)).take k = xs.map (fun x => x * x) := List.take_of_length_le (by rw [hsqn.out]; exact Nat.le_refl _)
            obtain ⟨φ2, hl2, hR2, eL, eM, eQ⟩ := hS5.out.frz3
            have R2 := Lib.hid hR2
            have S2 := Lib.hid (S1.out.mono (hle.out.trans hl2))
            have VL := Lib.hid (hV5.out.mono hl2)
            have VM := Lib.hid (hU5.out.mono hl2)
            have hvq := hQ5.out.mono hl2
            rw [hall, hQ.out] at hvq
            have VQ := Lib.hid hvq
            have EL := Lib.hid eL
            have EM := Lib.hid eM
            have EQ := Lib.hid eQ
            have HC0 := Lib.hid (fun (ψ : Phi) W (hf9 : Fz ψ W) => RWhole_any (n := (k : Int)) (by omega) (by omega) hf9)
            rw [show ((k : Int)).natAbs = k from Int.natAbs_natCast k] at HC0
            clear hS5 hV5 hU5 hQ5 hR2 eL eM eQ hl2 S1 hlt hbd hsq hvq hall
            go_upto_region 18 with (first
              | (go_at_call 17; (with_reducible refine (HC0.out _ _ R7.out.inv.fz).mono ?_); rintro e w8 ⟨v8, φ8, rfl, hi8, hv8⟩; obtain ⟨g8, n8, m8, k8, k8', a8, c8, a8', c8', rfl, _⟩ := hv8.open; have R8 := Lib.hid (R7.out.call hi8); have V8 := Lib.hid hv8; have V78 := Lib.hid (V7.out.mono hi8.le); have L8 := Lib.hid (L7.out.trans hi8.le); clear hi8 hv8)
              | (go_at_call 43; (with_reducible refine (Rsum_any hD hM hN1 HB.out.e.a1 HB.out.e.a2 R2.out.inv.fz S2.out hxn hS).mono ?_); rintro e w7 ⟨v7, φ7, rfl, hi7, hv7⟩; obtain ⟨g7, n7, m7, k7, k7', a7, c7, a7', c7', rfl, _⟩ := hv7.open; have R7 := Lib.hid (R2.out.call hi7); have V7 := Lib.hid hv7; have L7 := Lib.hid hi7.le; clear hi7 hv7))
            obtain ⟨φa, la, ia, ea⟩ := (Inv.start R8.out.inv.fz).frz (.cells #[.bool g7, .slice a7 k7 c7, .slice a7' k7' c7'] 46)
            obtain ⟨φb, lb, ib, eb⟩ := ia.frz (.cells #[.bool g8, .slice a8 k8 c8, .slice a8' k8' c8'] 46)
            have R9 := Lib.hid (R8.out.call ib)
            have E7 := Lib.hid (lb _ _ ea)
            rw [alloc_sz] at eb
            have E8 := Lib.hid eb
            have L9 := L8.out.trans ib.le
            have hR9le := R9.out.inv.le
            have E1 := Lib.hid (L9 _ _ EL.out)
            have E2 := Lib.hid (L9 _ _ EM.out)
            have E3 := Lib.hid (L9 _ _ EQ.out)
            have W1 := Lib.hid (VL.out.mono L9)
            have W2 := Lib.hid (VM.out.mono L9)
            have W3 := Lib.hid (VQ.out.mono L9)
            have W7 := Lib.hid (V78.out.mono ib.le)
            have W8 := Lib.hid (V8.out.mono ib.le)
            have HP9 := Lib.hid (HP.out.mono hR9le)
            clear ia ea ib eb la lb R2 R7 R8 V7 V78 V8 L7 L8 VL VM VQ EL EM EQ HC0 S2 L9 hR9le
            generalize (w8.alloc (.cells #[.bool g7, .slice a7 k7 c7, .slice a7' k7' c7'] 46)).alloc (.cells #[.bool g8, .slice a8 k8 c8, .slice a8' k8' c8'] 46) = wy at *
            generalize w8.heap.size = b11 at *
            obtain ⟨⟨y1, y2, y3, y4, y5, y6, y7, y8, y9, y10, y11⟩, s1, s2, s3, s4, s5⟩ := HB.out
            generalize hNB : k * N * N ^ k = NB at *
            generalize hDB : N ^ k = DB at *
            generalize hQN : k * (N * N) * (N * N) ^ k = QN at *
            generalize hQD : (N * N) ^ k = QD at *
            have MT := Lib.hid (And.intro y5 (And.intro y6 y1))
            have MV := Lib.hid (And.intro y7 (And.intro y8 y4))
            have MS := Lib.hid (And.intro (show NB * 1 ≤ M by omega) (And.intro s1 s5))
            have ME := Lib.hid (And.intro s2 (And.intro (show 1 * (NB * NB * QD) ≤ M by omega) y8))
            have W7M := Lib.hid (W7.out.le y1 y2)
            have W1M := Lib.hid (W1.out.le y11 y11)
            have W2M := Lib.hid (W2.out.le y11 y11)
            have HK0 : Hid (((k : Int) : Rat) ≠ 0) := Lib.hid (by have := hpos.out; simp; omega)
            have HQn : Hid (Q ≠ 0) := Lib.hid (fun e => by have := HQ0.out; rw [e] at this; exact absurd this (by decide))
            clear y1 y2 y3 y4 y5 y6 y7 y8 y9 y10 y11 s1 s2 s3 s4 s5 hNB hDB hQN hQD HB W1 W2
            have hcf := Lib.hid (fun (ψ : Phi) (W : World) (hl : φb.le ψ) (hf : Fz ψ W) => (⟨box_cell E7.out hl hf 0, box_cell E7.out hl hf 1, box_cell E7.out hl hf 2, box_cell E3.out hl hf 0, box_cell E3.out hl hf 1, box_cell E3.out hl hf 2⟩ : W.cell? ⟨b11, 0, none⟩ = some (.bool g7) ∧ W.cell? ⟨b11, 1, none⟩ = some (.slice a7 k7 c7) ∧ W.cell? ⟨b11, 2, none⟩ = some (.slice a7' k7' c7') ∧ W.cell? ⟨bq, 0, none⟩ = some (.bool g3) ∧ W.cell? ⟨bq, 1, none⟩ = some (.slice a5 k5 c5) ∧ W.cell? ⟨bq, 2, none⟩ = some (.slice a6 k6 c6)))
            have B0 : Hid (BxS 33 #[Value.string ⟨#[]⟩, Value.string ⟨#[]⟩, Value.string ⟨#[]⟩, Value.string ⟨#[]⟩, Value.string ⟨#[]⟩, Value.string ⟨#[]⟩, Value.string ⟨#[]⟩, Value.string ⟨#[]⟩, Value.string ⟨#[]⟩, Value.string ⟨#[]⟩, Value.string ⟨#[]⟩, Value.string ⟨#[]⟩] 46 w φ φb b [] wy.drew) := Lib.hid (BxS.nil R9.out).drew
            have B1 : Hid (BxS 33 #[Value.string ⟨#[]⟩, Value.string ⟨#[]⟩, Value.string ⟨#[]⟩, Value.string ⟨#[]⟩, Value.string ⟨#[]⟩, Value.string ⟨#[]⟩, Value.string ⟨#[]⟩, Value.string ⟨#[]⟩, Value.string ⟨#[]⟩, Value.string ⟨#[]⟩, Value.string ⟨#[]⟩, Value.string ⟨#[]⟩] 46 w φ φb b [(wy.heap.size, #[Value.bool false, Value.slice none 0 0, Value.slice none 0 0])] (wy.alloc (.cells #[Value.bool false, Value.slice none 0 0, Value.slice none 0 0] 46)).drew) := Lib.hid ((BxS.nil R9.out).alloc _).drew
            obtain ⟨x0, x1, x2, x3, x4, x5⟩ := hcf.out φb wy.drew φb.le_refl B0.out.r.inv.fz
            apply wp_region_cutV (fun (i : Nat × Value × Bool × Option Addr × Nat × Nat × Option Addr × Nat × Nat) => [(62, .agg #[.bool g7, .slice a7 k7 c7, .slice a7' k7' c7']), (63, .agg #[.bool g7, .slice a7 k7 c7, .slice a7' k7' c7']), (64, i.2.1), (65, .agg #[.bool g3, .slice a5 k5 c5, .slice a6 k6 c6]), (66, .agg #[.bool i.2.2.1, .slice i.2.2.2.1 i.2.2.2.2.1 i.2.2.2.2.2.1, .slice i.2.2.2.2.2.2.1 i.2.2.2.2.2.2.2.1 i.2.2.2.2.2.2.2.2]), (13, .pointer (some ⟨i.1, 0, none⟩))])
              (fun i W => Hid (∃ φ3, φb.le φ3 ∧ BxS 33 #[Value.string ⟨#[]⟩, Value.string ⟨#[]⟩, Value.string ⟨#[]⟩, Value.string ⟨#[]⟩, Value.string ⟨#[]⟩, Value.string ⟨#[]⟩, Value.string ⟨#[]⟩, Value.string ⟨#[]⟩, Value.string ⟨#[]⟩, Value.string ⟨#[]⟩, Value.string ⟨#[]⟩, Value.string ⟨#[]⟩] 46 w φ φ3 b [(i.1, #[.bool i.2.2.1, .slice i.2.2.2.1 i.2.2.2.2.1 i.2.2.2.2.2.1, .slice i.2.2.2.2.2.2.1 i.2.2.2.2.2.2.2.1 i.2.2.2.2.2.2.2.2])] W ∧ FrX φ3 (.agg #[.bool i.2.2.1, .slice i.2.2.2.1 i.2.2.2.2.1 i.2.2.2.2.2.1, .slice i.2.2.2.2.2.2.1 i.2.2.2.2.2.2.2.1 i.2.2.2.2.2.2.2.2]) E (NB * NB * QD) (DB * DB * QN)))
            case h1 =>
              intro KK hKK
              have xl1 : wy.heap.size ≠ b11 := Ne.symm (Nat.ne_of_lt (block_lt_of_cell (show wy.cell? ⟨b11, 0, none⟩ = some (.bool g7) from x0)))
              have xl2 : wy.heap.size ≠ bq := Ne.symm (Nat.ne_of_lt (block_lt_of_cell (show wy.cell? ⟨bq, 0, none⟩ = some (.bool g3) from x3)))
              have x0' : wy.cell? ⟨b11, 0, none⟩ = some (.bool g7) := x0
              have x1' : wy.cell? ⟨b11, 1, none⟩ = some (.slice a7 k7 c7) := x1
              have x2' : wy.cell? ⟨b11, 2, none⟩ = some (.slice a7' k7' c7') := x2
              have x3' : wy.cell? ⟨bq, 0, none⟩ = some (.bool g3) := x3
              have x4' : wy.cell? ⟨bq, 1, none⟩ = some (.slice a5 k5 c5) := x4
              have x5' : wy.cell? ⟨bq, 2, none⟩ = some (.slice a6 k6 c6) := x5
              go_region_held3 (fun w' => w'.cell? ⟨b11, 0, none⟩ = some (.bool g7) ∧ w'.cell? ⟨b11, 1, none⟩ = some (.slice a7 k7 c7) ∧ w'.cell? ⟨b11, 2, none⟩ = some (.slice a7' k7' c7') ∧ w'.cell? ⟨bq, 0, none⟩ = some (.bool g3) ∧ w'.cell? ⟨bq, 1, none⟩ = some (.slice a5 k5 c5) ∧ w'.cell? ⟨bq, 2, none⟩ = some (.slice a6 k6 c6)) (first | with_reducible exact ⟨x0, x1, x2, x3, x4, x5⟩ | with_reducible exact ⟨by assumption, by assumption, by assumption, by assumption, by assumption, by assumption⟩ | with_reducible exact ⟨keepAP (by with_reducible assumption), keepAP (by with_reducible assumption), keepAP (by with_reducible assumption), keepAP (by with_reducible assumption), keepAP (by with_reducible assumption), keepAP (by with_reducible assumption)⟩ | with_reducible exact ⟨keepDr (keepAP (by with_reducible assumption)), keepDr (keepAP (by with_reducible assumption)), keepDr (keepAP (by with_reducible assumption)), keepDr (keepAP (by with_reducible assumption)), keepDr (keepAP (by with_reducible assumption)), keepDr (keepAP (by with_reducible assumption))⟩ | with_reducible exact ⟨keep3 (by with_reducible assumption) (show _ ≠ b11 by with_reducible assumption), keep3 (by with_reducible assumption) (show _ ≠ b11 by with_reducible assumption), keep3 (by with_reducible assumption) (show _ ≠ b11 by with_reducible assumption), keep3 (by with_reducible assumption) (show _ ≠ bq by with_reducible assumption), keep3 (by with_reducible assumption) (show _ ≠ bq by with_reducible assumption), keep3 (by with_reducible assumption) (show _ ≠ bq by with_reducible assumption)⟩) (first
                | ((first | (with_reducible refine (ROver_B hD hM BA (VA.out) (W3.out.mono LA.out) HQn.out MV.out.1 MV.out.2.1 MV.out.2.2).mono ?_) | (with_reducible refine (ROver_B hD hM (Lib.hid (BA.out.alloc _)) (VA.out) (W3.out.mono LA.out) HQn.out MV.out.1 MV.out.2.1 MV.out.2.2).mono ?_)); rintro e wB ⟨vB, φB, rfl, BB, VB, LB0⟩; obtain ⟨ge, ae, ke, ce, ae', ke', ce', nB, mB, rfl⟩ : ∃ (ge : Bool) (ae : Option Addr) (ke ce : Nat) (ae' : Option Addr) (ke' ce' : Nat) (nB mB : Nat), vB = .agg #[.bool ge, .slice ae ke ce, .slice ae' ke' ce'] := (by obtain ⟨g9, n9, d9, k9, l9, a9, c9, b9, e9, h9, _⟩ := VB.out.open; exact ⟨g9, a9, k9, c9, b9, l9, e9, n9, d9, h9⟩); have LB := Lib.hid (LA.out.trans LB0.out); (try (have vv0 := BB.out.get 0 rfl; obtain ⟨v00, v01, v02, v03, v04, v05⟩ := vv0)); obtain ⟨p0, p1, p2, p3, p4, p5⟩ := hcf.out φB wB LB.out BB.out.r.inv.fz; have pl1 : wB.heap.size ≠ b11 := Ne.symm (Nat.ne_of_lt (block_lt_of_cell p0)); have pl2 : wB.heap.size ≠ bq := Ne.symm (Nat.ne_of_lt (block_lt_of_cell p3)))
                | ((first | (with_reducible refine (RTimes_B hD hM B0 W7.out W7.out MT.out.1 MT.out.2.1 MT.out.2.2 MT.out.2.2).mono ?_) | (with_reducible refine (RTimes_B hD hM B1 W7.out W7.out MT.out.1 MT.out.2.1 MT.out.2.2 MT.out.2.2).mono ?_)); rintro e wA ⟨vA, φA, rfl, BA, VA, LA⟩; (try (have vv0 := BA.out.get 0 rfl; have vl0 := (BA.out.a 0 _ _ rfl).1.k.lt; obtain ⟨v00, v01, v02, v03, v04, v05⟩ := vv0)); obtain ⟨o0, o1, o2, o3, o4, o5⟩ := hcf.out φA wA LA.out BA.out.r.inv.fz; have ol1 : wA.heap.size ≠ b11 := Ne.symm (Nat.ne_of_lt (block_lt_of_cell o0)); have ol2 : wA.heap.size ≠ bq := Ne.symm (Nat.ne_of_lt (block_lt_of_cell o3))))
              all_goals
                refine onlyN_mk ?_
                have hk := fun x W s => hKK.out (x, vA, ge, ae, ke, ce, ae', ke', ce') W s
                simp only [updA, List.foldl_cons, List.foldl_nil, List.setIfInBounds_toArray, List.set_cons_succ, List.set_cons_zero] at hk
                refine hk _ _ (Lib.hid ⟨φB, LB.out, ?_, by have h := VB.out; rw [HE.out] at h; exact h⟩)
                first
                  | with_reducible exact BB.out.alloc _
                  | with_reducible exact BB.out.setX _ _ _
            case h2 =>
              rintro ⟨bE, v64, ge, ae, ke, ce, ae', ke', ce'⟩ W9 hF9
              simp only [updA, List.foldl_cons, List.foldl_nil, List.setIfInBounds_toArray, List.set_cons_succ, List.set_cons_zero]
              obtain ⟨φ5, hl5, hB5, hV5⟩ := hF9.out
              obtain ⟨φc, lc, hBc, eE⟩ := hB5.frz1
              have RD := Lib.hid hBc.r
              have L5 := hl5.trans lc
              have FE := Lib.hid eE
              have F1 := Lib.hid (L5 _ _ E1.out)
              have F2 := Lib.hid (L5 _ _ E2.out)
              have F7 := Lib.hid (L5 _ _ E7.out)
              have F8 := Lib.hid (L5 _ _ E8.out)
              have G1M := Lib.hid (W1M.out.mono L5)
              have G2M := Lib.hid (W2M.out.mono L5)
              have G7M := Lib.hid (W7M.out.mono L5)
              have G7 := Lib.hid (W7.out.mono L5)
              have G8 := Lib.hid (W8.out.mono L5)
              have GE := Lib.hid (hV5.mono lc)
              have GEM := Lib.hid ((hV5.mono lc).le MV.out.1 MV.out.2.1)
              have hp9 := Lib.hid (HP9.out.mono L5)
              clear hF9 hl5 hB5 hV5 lc hBc eE L5 E1 E2 E3 E7 E8 W1M W2M W7M W7 W8 W3 HP9 hcf B0 B1 R9 x0 x1 x2 x3 x4 x5
              go_upto_region 19 with fail
              have hcf := Lib.hid (fun (ψ : Phi) (W : World) (hl : φc.le ψ) (hf : Fz ψ W) => (⟨box_cell F7.out hl hf 0, box_cell F7.out hl hf 1, box_cell F7.out hl hf 2, box_cell F1.out hl hf 0, box_cell F1.out hl hf 1, box_cell F1.out hl hf 2, box_cell F2.out hl hf 0, box_cell F2.out hl hf 1, box_cell F2.out hl hf 2, box_cell F8.out hl hf 0, box_cell F8.out hl hf 1, box_cell F8.out hl hf 2, box_cell FE.out hl hf 0, box_cell FE.out hl hf 1, box_cell FE.out hl hf 2⟩ : W.cell? ⟨b11, 0, none⟩ = some (.bool g7) ∧ W.cell? ⟨b11, 1, none⟩ = some (.slice a7 k7 c7) ∧ W.cell? ⟨b11, 2, none⟩ = some (.slice a7' k7' c7') ∧ W.cell? ⟨bl, 0, none⟩ = some (.bool g1) ∧ W.cell? ⟨bl, 1, none⟩ = some (.slice a1 k1 c1) ∧ W.cell? ⟨bl, 2, none⟩ = some (.slice a2 k2 c2) ∧ W.cell? ⟨bm, 0, none⟩ = some (.bool g2) ∧ W.cell? ⟨bm, 1, none⟩ = some (.slice a3 k3 c3) ∧ W.cell? ⟨bm, 2, none⟩ = some (.slice a4 k4 c4) ∧ W.cell? ⟨b11 + 1, 0, none⟩ = some (.bool g8) ∧ W.cell? ⟨b11 + 1, 1, none⟩ = some (.slice a8 k8 c8) ∧ W.cell? ⟨b11 + 1, 2, none⟩ = some (.slice a8' k8' c8') ∧ W.cell? ⟨bE, 0, none⟩ = some (.bool ge) ∧ W.cell? ⟨bE, 1, none⟩ = some (.slice ae ke ce) ∧ W.cell? ⟨bE, 2, none⟩ = some (.slice ae' ke' ce')))
              have RDd : Hid (RsSt w φ φc b #[Value.string ⟨#[]⟩, Value.string ⟨#[]⟩, Value.string ⟨#[]⟩, Value.string ⟨#[]⟩, Value.string ⟨#[]⟩, Value.string ⟨#[]⟩, Value.string ⟨#[]⟩, Value.string ⟨#[]⟩, Value.string ⟨#[]⟩, Value.string ⟨#[]⟩, Value.string ⟨#[]⟩, Value.string ⟨#[]⟩] 33 W9.drew) := Lib.hid (RD.out.callB (bdrewN (Below.refl _ W9) 1))
              obtain ⟨x0, x1, x2, x3, x4, x5, x6, x7, x8, x9, x10, x11, x12, x13, x14⟩ := hcf.out φc W9.drew φc.le_refl RDd.out.inv.fz
              go_region_held3 (fun w' => w'.cell? ⟨b11, 0, none⟩ = some (.bool g7) ∧ w'.cell? ⟨b11, 1, none⟩ = some (.slice a7 k7 c7) ∧ w'.cell? ⟨b11, 2, none⟩ = some (.slice a7' k7' c7') ∧ w'.cell? ⟨bl, 0, none⟩ = some (.bool g1) ∧ w'.cell? ⟨bl, 1, none⟩ = some (.slice a1 k1 c1) ∧ w'.cell? ⟨bl, 2, none⟩ = some (.slice a2 k2 c2) ∧ w'.cell? ⟨bm, 0, none⟩ = some (.bool g2) ∧ w'.cell? ⟨bm, 1, none⟩ = some (.slice a3 k3 c3) ∧ w'.cell? ⟨bm, 2, none⟩ = some (.slice a4 k4 c4) ∧ w'.cell? ⟨b11 + 1, 0, none⟩ = some (.bool g8) ∧ w'.cell? ⟨b11 + 1, 1, none⟩ = some (.slice a8 k8 c8) ∧ w'.cell? ⟨b11 + 1, 2, none⟩ = some (.slice a8' k8' c8') ∧ w'.cell? ⟨bE, 0, none⟩ = some (.bool ge) ∧ w'.cell? ⟨bE, 1, none⟩ = some (.slice ae ke ce) ∧ w'.cell? ⟨bE, 2, none⟩ = some (.slice ae' ke' ce')) (first | with_reducible exact ⟨x0, x1, x2, x3, x4, x5, x6, x7, x8, x9, x10, x11, x12, x13, x14⟩ | with_reducible exact ⟨by assumption, by assumption, by assumption, by assumption, by assumption, by assumption, by assumption, by assumption, by assumption, by assumption, by assumption, by assumption, by assumption, by assumption, by assumption⟩ | with_reducible exact ⟨keepAP (by with_reducible assumption), keepAP (by with_reducible assumption), keepAP (by with_reducible assumption), keepAP (by with_reducible assumption), keepAP (by with_reducible assumption), keepAP (by with_reducible assumption), keepAP (by with_reducible assumption), keepAP (by with_reducible assumption), keepAP (by with_reducible assumption), keepAP (by with_reducible assumption), keepAP (by with_reducible assumption), keepAP (by with_reducible assumption), keepAP (by with_reducible assumption), keepAP (by with_reducible assumption), keepAP (by with_reducible assumption)⟩) (first
                | ((with_reducible refine (Rshut_lit hD hM RC.out.inv.fz (hp9.out.mono LC.out) (G7M.out.mono LC.out) (G1M.out.mono LC.out) (G2M.out.mono LC.out) VBM.out (GEM.out.mono LC.out) VCM.out hR).mono ?_); rintro e wF ⟨aR, cR, φF, rfl, hiF, hvF⟩; have RF := Lib.hid (RC.out.call hiF); have VF := Lib.hid hvF; obtain ⟨f0, f1, f2, f3, f4, f5, f6, f7, f8, f9, f10, f11, f12, f13, f14⟩ := hcf.out φF wF (LC.out.trans hiF.le) RF.out.inv.fz; clear hiF hvF)
                | ((with_reducible refine (ROver_any hD hM RB.out.inv.fz (G8.out.mono LB.out) (GE.out.mono LB.out) HE0.out ME.out.1 ME.out.2.1 ME.out.2.2).mono ?_); rintro e wC ⟨vC, φC, rfl, hiC, hvC⟩; obtain ⟨gC, nC, mC, kC, kC', aC, cC, aC', cC', rfl, _⟩ := hvC.open; have RC := Lib.hid (RB.out.call hiC); have VCM := Lib.hid (hvC.le ME.out.1 ME.out.2.1); have VBM := Lib.hid ((VB.out.le MS.out.1 MS.out.2.1).mono hiC.le); have LC := Lib.hid (LB.out.trans hiC.le); obtain ⟨e0, e1, e2, e3, e4, e5, e6, e7, e8, e9, e10, e11, e12, e13, e14⟩ := hcf.out φC wC LC.out RC.out.inv.fz; clear hiC hvC)
                | ((with_reducible refine (ROver_any hD hM RDd.out.inv.fz G7.out G8.out HK0.out MS.out.1 MS.out.2.1 MS.out.2.2).mono ?_); rintro e wB ⟨vB, φB, rfl, hiB, hvB⟩; obtain ⟨gB, nB, mB, kB, kB', aB, cB, aB', cB', rfl, _⟩ := hvB.open; have RB := Lib.hid (RDd.out.call hiB); have VB := Lib.hid hvB; have LB := Lib.hid hiB.le; obtain ⟨d0, d1, d2, d3, d4, d5, d6, d7, d8, d9, d10, d11, d12, d13, d14⟩ := hcf.out φB wB LB.out RB.out.inv.fz; clear hiB hvB))
              clear x0 x1 x2 x3 x4 x5 x6 x7 x8 x9 x10 x11 x12 x13 x14 d0 d1 d2 d3 d4 d5 d6 d7 d8 d9 d10 d11 d12 d13 d14 e0 e1 e2 e3 e4 e5 e6 e7 e8 e9 e10 e11 e12 e13 e14 f0 f1 f2 f3 f4 f5 f6 f7 f8 f9 f10 f11 f12 f13 f14
              by_cases hF0 : F = 0
              · subst hF0
                have hL6 : Hid (L.length = 6) := Lib.hid (shtR_len hR.out)
                rw [hL6.out]
                obtain ⟨br, oR, rfl, fR⟩ := VF.out.rtisD hL6 (k := 0) (by decide)
                have hRFd : Hid (RsSt w φ φF b #[Value.string ⟨#[]⟩, Value.string ⟨#[]⟩, Value.string ⟨#[]⟩, Value.string ⟨#[]⟩, Value.string ⟨#[]⟩, Value.string ⟨#[]⟩, Value.string ⟨#[]⟩, Value.string ⟨#[]⟩, Value.string ⟨#[]⟩, Value.string ⟨#[]⟩, Value.string ⟨#[]⟩, Value.string ⟨#[]⟩] 33 wF.drew) := Lib.hid (RF.out.callB (bdrewN (Below.refl _ wF) 1))
                obtain ⟨v0, v1⟩ := fR 0 (by decide) wF.drew hRFd.out.inv.fz
                obtain ⟨v2, v3⟩ := fR 1 (by decide) wF.drew hRFd.out.inv.fz
                obtain ⟨v4, v5⟩ := fR 2 (by decide) wF.drew hRFd.out.inv.fz
                obtain ⟨v6, v7⟩ := fR 3 (by decide) wF.drew hRFd.out.inv.fz
                obtain ⟨v8, v9⟩ := fR 4 (by decide) wF.drew hRFd.out.inv.fz
                obtain ⟨v10, v11⟩ := fR 5 (by decide) wF.drew hRFd.out.inv.fz
                have hSV : Hid (sprV L = .agg #[.string (L.getD 0 rti0).1, .string (L.getD 0 rti0).2, .string (L.getD 1 rti0).1, .string (L.getD 1 rti0).2, .string (L.getD 2 rti0).1, .string (L.getD 2 rti0).2, .string (L.getD 3 rti0).1, .string (L.getD 3 rti0).2, .string (L.getD 4 rti0).1, .string (L.getD 4 rti0).2, .string (L.getD 5 rti0).1, .string (L.getD 5 rti0).2]) := Lib.hid rfl
                obtain ⟨s0, hs0⟩ : ∃ s, (L.getD 0 rti0).1 = s := ⟨_, rfl⟩
                obtain ⟨t0, ht0⟩ : ∃ s, (L.getD 0 rti0).2 = s := ⟨_, rfl⟩
                obtain ⟨s1, hs1⟩ : ∃ s, (L.getD 1 rti0).1 = s := ⟨_, rfl⟩
                obtain ⟨t1, ht1⟩ : ∃ s, (L.getD 1 rti0).2 = s := ⟨_, rfl⟩
                obtain ⟨s2, hs2⟩ : ∃ s, (L.getD 2 rti0).1 = s := ⟨_, rfl⟩
                obtain ⟨t2, ht2⟩ : ∃ s, (L.getD 2 rti0).2 = s := ⟨_, rfl⟩
                obtain ⟨s3, hs3⟩ : ∃ s, (L.getD 3 rti0).1 = s := ⟨_, rfl⟩
                obtain ⟨t3, ht3⟩ : ∃ s, (L.getD 3 rti0).2 = s := ⟨_, rfl⟩
                obtain ⟨s4, hs4⟩ : ∃ s, (L.getD 4 rti0).1 = s := ⟨_, rfl⟩
                obtain ⟨t4, ht4⟩ : ∃ s, (L.getD 4 rti0).2 = s := ⟨_, rfl⟩
                obtain ⟨s5, hs5⟩ : ∃ s, (L.getD 5 rti0).1 = s := ⟨_, rfl⟩
                obtain ⟨t5, ht5⟩ : ∃ s, (L.getD 5 rti0).2 = s := ⟨_, rfl⟩
                rw [hs0, ht0, hs1, ht1, hs2, ht2, hs3, ht3, hs4, ht4, hs5, ht5] at hSV
                rw [hs0] at v0
                rw [ht0] at v1
                rw [hs1] at v2
                rw [ht1] at v3
                rw [hs2] at v4
                rw [ht2] at v5
                rw [hs3] at v6
                rw [ht3] at v7
                rw [hs4] at v8
                rw [ht4] at v9
                rw [hs5] at v10
                rw [ht5] at v11
                have v0 : wF.drew.cell? ⟨br, oR, none⟩ = some (.string s0) := v0
                have v1 : wF.drew.cell? ⟨br, oR + 1, none⟩ = some (.string t0) := v1
                have v2 : wF.drew.cell? ⟨br, oR + 2, none⟩ = some (.string s1) := v2
                have v3 : wF.drew.cell? ⟨br, oR + 3, none⟩ = some (.string t1) := v3
                have v4 : wF.drew.cell? ⟨br, oR + 4, none⟩ = some (.string s2) := v4
                have v5 : wF.drew.cell? ⟨br, oR + 5, none⟩ = some (.string t2) := v5
                have v6 : wF.drew.cell? ⟨br, oR + 6, none⟩ = some (.string s3) := v6
                have v7 : wF.drew.cell? ⟨br, oR + 7, none⟩ = some (.string t3) := v7
                have v8 : wF.drew.cell? ⟨br, oR + 8, none⟩ = some (.string s4) := v8
                have v9 : wF.drew.cell? ⟨br, oR + 9, none⟩ = some (.string t4) := v9
                have v10 : wF.drew.cell? ⟨br, oR + 10, none⟩ = some (.string s5) := v10
                have v11 : wF.drew.cell? ⟨br, oR + 11, none⟩ = some (.string t5) := v11
                clear fR VF hs0 ht0 hs1 ht1 hs2 ht2 hs3 ht3 hs4 ht4 hs5 ht5
                go_upto_region 22 with fail
                go_still_tail 19, (by kernel_rfl)
                change wpList _ _ _ _ _ wF.drew
                clear v0 v1 v2 v3 v4 v5 v6 v7 v8 v9 v10 v11
                generalize wF.drew = wG at *
                obtain ⟨y0, z0, y1, z1, y2, z2, y3, z3, y4, z4, y5, z5, y6, z6, y7, z7, y8, z8, y9, z9, y10, z10, y11, z11⟩ := hRFd.out.facts12
                go_wp2
                have hZ := Lib.hid (hRFd.out.put12 (Value.string s0) (Value.string t0) (Value.string s1) (Value.string t1) (Value.string s2) (Value.string t2) (Value.string s3) (Value.string t3) (Value.string s4) (Value.string t4) (Value.string s5) (Value.string t5))
                have e0 : _ = some (Value.string s0) := hZ.out.k.cell 0
                have e1 : _ = some (Value.string t0) := hZ.out.k.cell 1
                have e2 : _ = some (Value.string s1) := hZ.out.k.cell 2
                have e3 : _ = some (Value.string t1) := hZ.out.k.cell 3
                have e4 : _ = some (Value.string s2) := hZ.out.k.cell 4
                have e5 : _ = some (Value.string t2) := hZ.out.k.cell 5
                have e6 : _ = some (Value.string s3) := hZ.out.k.cell 6
                have e7 : _ = some (Value.string t3) := hZ.out.k.cell 7
                have e8 : _ = some (Value.string s4) := hZ.out.k.cell 8
                have e9 : _ = some (Value.string t4) := hZ.out.k.cell 9
                have e10 : _ = some (Value.string s5) := hZ.out.k.cell 10
                have e11 : _ = some (Value.string t5) := hZ.out.k.cell 11
                (try simp only [Exit.inBlock, Exit.then])
                refine bodyPost_ret (v := .tuple #[.agg #[(Value.string s0), (Value.string t0), (Value.string s1), (Value.string t1), (Value.string s2), (Value.string t2), (Value.string s3), (Value.string t3), (Value.string s4), (Value.string t4), (Value.string s5), (Value.string t5)], .int .i64 0]) (by simp [results, Tryz.results13, go_sem, e0, e1, e2, e3, e4, e5, e6, e7, e8, e9, e10, e11]) rfl ?_
                exact ⟨by rw [hSV.out], hZ.out.inv.bel⟩
              · obtain rfl := shtR_nil hR.out hF0
                have h0i : (F == 0) = false := by simp [hF0]
                have h0j : (F != 0) = true := by simp [hF0]
                obtain ⟨y0, z0, y1, z1, y2, z2, y3, z3, y4, z4, y5, z5, y6, z6, y7, z7, y8, z8, y9, z9, y10, z10, y11, z11⟩ := RF.out.facts12
                clear hF0
                go_wp2
                have hZ := Lib.hid (RF.out.put12 (Value.string ⟨#[]⟩) (Value.string ⟨#[]⟩) (Value.string ⟨#[]⟩) (Value.string ⟨#[]⟩) (Value.string ⟨#[]⟩) (Value.string ⟨#[]⟩) (Value.string ⟨#[]⟩) (Value.string ⟨#[]⟩) (Value.string ⟨#[]⟩) (Value.string ⟨#[]⟩) (Value.string ⟨#[]⟩) (Value.string ⟨#[]⟩))
                have e0 : _ = some (Value.string ⟨#[]⟩) := hZ.out.k.cell 0
                have e1 : _ = some (Value.string ⟨#[]⟩) := hZ.out.k.cell 1
                have e2 : _ = some (Value.string ⟨#[]⟩) := hZ.out.k.cell 2
                have e3 : _ = some (Value.string ⟨#[]⟩) := hZ.out.k.cell 3
                have e4 : _ = some (Value.string ⟨#[]⟩) := hZ.out.k.cell 4
                have e5 : _ = some (Value.string ⟨#[]⟩) := hZ.out.k.cell 5
                have e6 : _ = some (Value.string ⟨#[]⟩) := hZ.out.k.cell 6
                have e7 : _ = some (Value.string ⟨#[]⟩) := hZ.out.k.cell 7
                have e8 : _ = some (Value.string ⟨#[]⟩) := hZ.out.k.cell 8
                have e9 : _ = some (Value.string ⟨#[]⟩) := hZ.out.k.cell 9
                have e10 : _ = some (Value.string ⟨#[]⟩) := hZ.out.k.cell 10
                have e11 : _ = some (Value.string ⟨#[]⟩) := hZ.out.k.cell 11
                (try simp only [Exit.inBlock, Exit.then])
                refine bodyPost_ret (v := .tuple #[.agg #[(Value.string ⟨#[]⟩), (Value.string ⟨#[]⟩), (Value.string ⟨#[]⟩), (Value.string ⟨#[]⟩), (Value.string ⟨#[]⟩), (Value.string ⟨#[]⟩), (Value.string ⟨#[]⟩), (Value.string ⟨#[]⟩), (Value.string ⟨#[]⟩), (Value.string ⟨#[]⟩), (Value.string ⟨#[]⟩), (Value.string ⟨#[]⟩)], .int .i64 F]) (by simp [results, Tryz.results13, go_sem, e0, e1, e2, e3, e4, e5, e6, e7, e8, e9, e10, e11]) rfl ?_
                exact ⟨rfl, hZ.out.inv.bel⟩
end Go.Proofs.YtdlnhmcgnpjooaaGreatDoor
