/- The walk of the program's SpreadOf. Conditions: the library's table of powers of ten reads as it was laid. -/
import Derived.Test.YtdlnhmcgnpjooaaGreatDoorJ18
import Derived.Test.YtdlnhmcgnpjooaaGreatDoorJP
namespace Go.Proofs.YtdlnhmcgnpjooaaGreatDoor
open Go.RowKit
set_option linter.unusedVariables false
/-- A result's cell of twelve strings, a least and a greatest number. -/
structure SpS (E : TypeId) (w0 : World) (φ0 φ : Phi) (b bl : Nat) (cl : Array Value) (bm : Nat) (cm : Array Value) (W : World) : Prop where
  r : RsSt w0 φ0 φ b #[Value.string ⟨#[]⟩, Value.string ⟨#[]⟩, Value.string ⟨#[]⟩, Value.string ⟨#[]⟩, Value.string ⟨#[]⟩, Value.string ⟨#[]⟩, Value.string ⟨#[]⟩, Value.string ⟨#[]⟩, Value.string ⟨#[]⟩, Value.string ⟨#[]⟩, Value.string ⟨#[]⟩, Value.string ⟨#[]⟩] 33 W
  l : RsSt w0 φ0 φ bl cl E W
  m : RsSt w0 φ0 φ bm cm E W
  n1 : bl ≠ b
  n2 : bm ≠ b
  n3 : bl ≠ bm
section
variable {E : TypeId} {w0 W w' : World} {φ0 φ φ' : Phi} {b bl bm : Nat} {cl cm : Array Value}
theorem SpS.call (h : SpS E w0 φ0 φ b bl cl bm cm W) (hi : Inv W.heap.size W φ φ' w') : SpS E w0 φ0 φ' b bl cl bm cm w' := ⟨h.r.call hi, h.l.call hi, h.m.call hi, h.n1, h.n2, h.n3⟩
theorem SpS.callB (h : SpS E w0 φ0 φ b bl cl bm cm W) (hb : Below W.heap.size W w') : SpS E w0 φ0 φ b bl cl bm cm w' := ⟨h.r.callB hb, h.l.callB hb, h.m.callB hb, h.n1, h.n2, h.n3⟩
theorem SpS.setL (h : SpS E w0 φ0 φ b bl cl bm cm W) (j : Nat) (u : Value) : SpS E w0 φ0 φ b bl (cl.setIfInBounds j u) bm cm (W.setCell ⟨bl, j, none⟩ u) := ⟨h.r.oth h.l h.n1 j u, h.l.set j u, h.m.oth h.l h.n3 j u, h.n1, h.n2, h.n3⟩
theorem SpS.setM (h : SpS E w0 φ0 φ b bl cl bm cm W) (j : Nat) (u : Value) : SpS E w0 φ0 φ b bl cl bm (cm.setIfInBounds j u) (W.setCell ⟨bm, j, none⟩ u) := ⟨h.r.oth h.m h.n2 j u, h.l.oth h.m (Ne.symm h.n3) j u, h.m.set j u, h.n1, h.n2, h.n3⟩
theorem SpS.new1 (h : RsSt w0 φ0 φ b #[Value.string ⟨#[]⟩, Value.string ⟨#[]⟩, Value.string ⟨#[]⟩, Value.string ⟨#[]⟩, Value.string ⟨#[]⟩, Value.string ⟨#[]⟩, Value.string ⟨#[]⟩, Value.string ⟨#[]⟩, Value.string ⟨#[]⟩, Value.string ⟨#[]⟩, Value.string ⟨#[]⟩, Value.string ⟨#[]⟩] 33 W) (cl cm : Array Value) : SpS E w0 φ0 φ b W.heap.size cl (W.heap.size + 1) cm ((W.alloc (.cells cl E)).alloc (.cells cm E)).drew := by
  have k := h.k.lt
  have l1 := RsSt.start h.inv cl E
  have m1 := RsSt.start l1.inv cm E
  rw [alloc_sz] at m1
  exact SpS.callB ⟨(h.callB ((Below.refl _ _).alloc (Nat.le_refl _) _)).callB ((Below.refl _ _).alloc (Nat.le_refl _) _), l1.callB ((Below.refl _ _).alloc (Nat.le_refl _) _), m1, by omega, by omega, by omega⟩ (bdrewN (Below.refl _ _) 1)
theorem SpS.new2 (h : RsSt w0 φ0 φ b #[Value.string ⟨#[]⟩, Value.string ⟨#[]⟩, Value.string ⟨#[]⟩, Value.string ⟨#[]⟩, Value.string ⟨#[]⟩, Value.string ⟨#[]⟩, Value.string ⟨#[]⟩, Value.string ⟨#[]⟩, Value.string ⟨#[]⟩, Value.string ⟨#[]⟩, Value.string ⟨#[]⟩, Value.string ⟨#[]⟩] 33 W) (cl cm : Array Value) : SpS E w0 φ0 φ b (W.heap.size + 1) cl W.heap.size cm ((W.alloc (.cells cm E)).alloc (.cells cl E)).drew := by
  have s := SpS.new1 (E := E) h cm cl
  exact ⟨s.r, s.m, s.l, s.n2, s.n1, Ne.symm s.n3⟩
theorem SpS.frz (h : SpS E w0 φ0 φ b bl cl bm cm W) : ∃ φ', φ.le φ' ∧ RsSt w0 φ0 φ' b #[Value.string ⟨#[]⟩, Value.string ⟨#[]⟩, Value.string ⟨#[]⟩, Value.string ⟨#[]⟩, Value.string ⟨#[]⟩, Value.string ⟨#[]⟩, Value.string ⟨#[]⟩, Value.string ⟨#[]⟩, Value.string ⟨#[]⟩, Value.string ⟨#[]⟩, Value.string ⟨#[]⟩, Value.string ⟨#[]⟩] 33 W ∧ φ' bl = some (.cells cl E) ∧ φ' bm = some (.cells cm E) := by
  obtain ⟨φ1, l1, i1, e1, f1⟩ := h.r.inv.frzAt h.l.k h.l.l
  obtain ⟨φ2, l2, i2, e2, f2⟩ := i1.frzAt h.m.k h.m.l
  exact ⟨φ2, l1.trans l2, ⟨i2, h.r.k, by rw [f2 b (Ne.symm h.n2), f1 b (Ne.symm h.n1)]; exact h.r.f, h.r.l⟩, by rw [f2 bl h.n3]; exact e1, e2⟩
end
/-- The value of a spread. -/
def sprV (L : List Rti) : Value := .agg #[.string (L.getD 0 rti0).1, .string (L.getD 0 rti0).2, .string (L.getD 1 rti0).1, .string (L.getD 1 rti0).2, .string (L.getD 2 rti0).1, .string (L.getD 2 rti0).2, .string (L.getD 3 rti0).1, .string (L.getD 3 rti0).2, .string (L.getD 4 rti0).1, .string (L.getD 4 rti0).2, .string (L.getD 5 rti0).1, .string (L.getD 5 rti0).2]
theorem RsSt.put12 {w0 W : World} {φ0 φ : Phi} {b : Nat} {T : TypeId} (h : RsSt w0 φ0 φ b #[Value.string ⟨#[]⟩, Value.string ⟨#[]⟩, Value.string ⟨#[]⟩, Value.string ⟨#[]⟩, Value.string ⟨#[]⟩, Value.string ⟨#[]⟩, Value.string ⟨#[]⟩, Value.string ⟨#[]⟩, Value.string ⟨#[]⟩, Value.string ⟨#[]⟩, Value.string ⟨#[]⟩, Value.string ⟨#[]⟩] T W) (v0 v1 v2 v3 v4 v5 v6 v7 v8 v9 v10 v11 : Value) : RsSt w0 φ0 φ b #[v0, v1, v2, v3, v4, v5, v6, v7, v8, v9, v10, v11] T ((((((((((((W.setCell ⟨b, 0, none⟩ v0).setCell ⟨b, 1, none⟩ v1).setCell ⟨b, 2, none⟩ v2).setCell ⟨b, 3, none⟩ v3).setCell ⟨b, 4, none⟩ v4).setCell ⟨b, 5, none⟩ v5).setCell ⟨b, 6, none⟩ v6).setCell ⟨b, 7, none⟩ v7).setCell ⟨b, 8, none⟩ v8).setCell ⟨b, 9, none⟩ v9).setCell ⟨b, 10, none⟩ v10).setCell ⟨b, 11, none⟩ v11) := by
  have h := h.set 0 v0
  simp only [List.setIfInBounds_toArray, List.set_cons_succ, List.set_cons_zero] at h
  have h := h.set 1 v1
  simp only [List.setIfInBounds_toArray, List.set_cons_succ, List.set_cons_zero] at h
  have h := h.set 2 v2
  simp only [List.setIfInBounds_toArray, List.set_cons_succ, List.set_cons_zero] at h
  have h := h.set 3 v3
  simp only [List.setIfInBounds_toArray, List.set_cons_succ, List.set_cons_zero] at h
  have h := h.set 4 v4
  simp only [List.setIfInBounds_toArray, List.set_cons_succ, List.set_cons_zero] at h
  have h := h.set 5 v5
  simp only [List.setIfInBounds_toArray, List.set_cons_succ, List.set_cons_zero] at h
  have h := h.set 6 v6
  simp only [List.setIfInBounds_toArray, List.set_cons_succ, List.set_cons_zero] at h
  have h := h.set 7 v7
  simp only [List.setIfInBounds_toArray, List.set_cons_succ, List.set_cons_zero] at h
  have h := h.set 8 v8
  simp only [List.setIfInBounds_toArray, List.set_cons_succ, List.set_cons_zero] at h
  have h := h.set 9 v9
  simp only [List.setIfInBounds_toArray, List.set_cons_succ, List.set_cons_zero] at h
  have h := h.set 10 v10
  simp only [List.setIfInBounds_toArray, List.set_cons_succ, List.set_cons_zero] at h
  have h := h.set 11 v11
  simp only [List.setIfInBounds_toArray, List.set_cons_succ, List.set_cons_zero] at h
  exact h
theorem RsSt.facts12 {w0 W : World} {φ0 φ : Phi} {b : Nat} {T : TypeId} (h : RsSt w0 φ0 φ b #[Value.string ⟨#[]⟩, Value.string ⟨#[]⟩, Value.string ⟨#[]⟩, Value.string ⟨#[]⟩, Value.string ⟨#[]⟩, Value.string ⟨#[]⟩, Value.string ⟨#[]⟩, Value.string ⟨#[]⟩, Value.string ⟨#[]⟩, Value.string ⟨#[]⟩, Value.string ⟨#[]⟩, Value.string ⟨#[]⟩] T W) : W.cell? ⟨b, 0, none⟩ = some (.string ⟨#[]⟩) ∧ W.frozen? ⟨b, 0, none⟩ = false ∧ W.cell? ⟨b, 1, none⟩ = some (.string ⟨#[]⟩) ∧ W.frozen? ⟨b, 1, none⟩ = false ∧ W.cell? ⟨b, 2, none⟩ = some (.string ⟨#[]⟩) ∧ W.frozen? ⟨b, 2, none⟩ = false ∧ W.cell? ⟨b, 3, none⟩ = some (.string ⟨#[]⟩) ∧ W.frozen? ⟨b, 3, none⟩ = false ∧ W.cell? ⟨b, 4, none⟩ = some (.string ⟨#[]⟩) ∧ W.frozen? ⟨b, 4, none⟩ = false ∧ W.cell? ⟨b, 5, none⟩ = some (.string ⟨#[]⟩) ∧ W.frozen? ⟨b, 5, none⟩ = false ∧ W.cell? ⟨b, 6, none⟩ = some (.string ⟨#[]⟩) ∧ W.frozen? ⟨b, 6, none⟩ = false ∧ W.cell? ⟨b, 7, none⟩ = some (.string ⟨#[]⟩) ∧ W.frozen? ⟨b, 7, none⟩ = false ∧ W.cell? ⟨b, 8, none⟩ = some (.string ⟨#[]⟩) ∧ W.frozen? ⟨b, 8, none⟩ = false ∧ W.cell? ⟨b, 9, none⟩ = some (.string ⟨#[]⟩) ∧ W.frozen? ⟨b, 9, none⟩ = false ∧ W.cell? ⟨b, 10, none⟩ = some (.string ⟨#[]⟩) ∧ W.frozen? ⟨b, 10, none⟩ = false ∧ W.cell? ⟨b, 11, none⟩ = some (.string ⟨#[]⟩) ∧ W.frozen? ⟨b, 11, none⟩ = false :=
  ⟨h.k.cell 0, h.k.frz 0, h.k.cell 1, h.k.frz 1, h.k.cell 2, h.k.frz 2, h.k.cell 3, h.k.frz 3, h.k.cell 4, h.k.frz 4, h.k.cell 5, h.k.frz 5, h.k.cell 6, h.k.frz 6, h.k.cell 7, h.k.frz 7, h.k.cell 8, h.k.frz 8, h.k.cell 9, h.k.frz 9, h.k.cell 10, h.k.frz 10, h.k.cell 11, h.k.frz 11⟩
theorem keepDr {w : World} {a : Addr} {v : Value} (h : w.cell? a = some v) : w.drew.cell? a = some v := h
theorem FfX.rep {φ : Phi} {g : Bool} {a1 : Option Addr} {k1 c1 : Nat} {a2 : Option Addr} {k2 c2 : Nat} {x : Rat} {N D : Nat} (h : FfX φ (.agg #[.bool g, .slice a1 k1 c1, .slice a2 k2 c2]) x N D) : Rep.rep φ (⟨x⟩ : Fx N D) [.bool g, .slice a1 k1 c1, .slice a2 k2 c2] := ⟨g, a1, k1, c1, a2, k2, c2, rfl, h⟩
theorem RepL.six {α : Type} [Rep α] {φ : Phi} {x0 x1 x2 x3 x4 x5 : α} {c0 c1 c2 c3 c4 c5 : List Value} (h0 : Rep.rep φ x0 c0) (h1 : Rep.rep φ x1 c1) (h2 : Rep.rep φ x2 c2) (h3 : Rep.rep φ x3 c3) (h4 : Rep.rep φ x4 c4) (h5 : Rep.rep φ x5 c5) : RepL φ [x0, x1, x2, x3, x4, x5] (c0 ++ (c1 ++ (c2 ++ (c3 ++ (c4 ++ (c5 ++ [])))))) :=
  ⟨c0, _, rfl, h0, c1, _, rfl, h1, c2, _, rfl, h2, c3, _, rfl, h3, c4, _, rfl, h4, c5, _, rfl, h5, rfl⟩
theorem Ratios_lit {M : Nat} (hD : Hid (DivOk M)) (hM : LenB M) {g0 : Bool} {a0 : Option Addr} {k0 c0 : Nat} {a0' : Option Addr} {k0' c0' : Nat} {g1 : Bool} {a1 : Option Addr} {k1 c1 : Nat} {a1' : Option Addr} {k1' c1' : Nat} {g2 : Bool} {a2 : Option Addr} {k2 c2 : Nat} {a2' : Option Addr} {k2' c2' : Nat} {g3 : Bool} {a3 : Option Addr} {k3 c3 : Nat} {a3' : Option Addr} {k3' c3' : Nat} {g4 : Bool} {a4 : Option Addr} {k4 c4 : Nat} {a4' : Option Addr} {k4' c4' : Nat} {g5 : Bool} {a5 : Option Addr} {k5 c5 : Nat} {a5' : Option Addr} {k5' c5' : Nat} {x0 x1 x2 x3 x4 x5 : Rat} {W : World} {φ : Phi} (hφ : Fz φ W) (hp : PowP φ) (h0 : FfX φ (.agg #[.bool g0, .slice a0 k0 c0, .slice a0' k0' c0']) x0 M M) (h1 : FfX φ (.agg #[.bool g1, .slice a1 k1 c1, .slice a1' k1' c1']) x1 M M) (h2 : FfX φ (.agg #[.bool g2, .slice a2 k2 c2, .slice a2' k2' c2']) x2 M M) (h3 : FfX φ (.agg #[.bool g3, .slice a3 k3 c3, .slice a3' k3' c3']) x3 M M) (h4 : FfX φ (.agg #[.bool g4, .slice a4 k4 c4, .slice a4' k4' c4']) x4 M M) (h5 : FfX φ (.agg #[.bool g5, .slice a5 k5 c5, .slice a5' k5' c5']) x5 M M) {L : List Rti} {F : Int} (hR : Hid (shtR [x0, x1, x2, x3, x4, x5] = (L, F))) :
    Calls Tryz.prog 39 #[.slice (some ⟨W.heap.size, 0, none⟩) 6 6] (W.alloc (.cells #[.bool g0, .slice a0 k0 c0, .slice a0' k0' c0', .bool g1, .slice a1 k1 c1, .slice a1' k1' c1', .bool g2, .slice a2 k2 c2, .slice a2' k2' c2', .bool g3, .slice a3 k3 c3, .slice a3' k3' c3', .bool g4, .slice a4 k4 c4, .slice a4' k4' c4', .bool g5, .slice a5 k5 c5, .slice a5' k5' c5'] 63)) (SlPost (L, F) φ W) := by
  obtain ⟨φL, lL, iL, sL⟩ := SlV.lit (α := Fx M M) hφ 63 (xs := [⟨x0⟩, ⟨x1⟩, ⟨x2⟩, ⟨x3⟩, ⟨x4⟩, ⟨x5⟩]) (arr := #[.bool g0, .slice a0 k0 c0, .slice a0' k0' c0', .bool g1, .slice a1 k1 c1, .slice a1' k1' c1', .bool g2, .slice a2 k2 c2, .slice a2' k2' c2', .bool g3, .slice a3 k3 c3, .slice a3' k3' c3', .bool g4, .slice a4 k4 c4, .slice a4' k4' c4', .bool g5, .slice a5 k5 c5, .slice a5' k5' c5']) (RepL.six h0.rep h1.rep h2.rep h3.rep h4.rep h5.rep) (by show 6 ≤ maxLen; unfold maxLen; omega)
  refine (Ratios_any hD hM (Nat.le_refl _) (Nat.le_refl _) (n := 6) (xs := [x0, x1, x2, x3, x4, x5]) iL.fz (hp.mono lL) sL (Lib.hid rfl) (by decide) hR).mono ?_
  rintro e w' ⟨a, c, φ', rfl, hi, hs⟩
  exact ⟨a, c, φ', rfl, iL.call hi, hs⟩
theorem shtR_nil {xs : List Rat} {L : List Rti} {F : Int} (h : shtR xs = (L, F)) (hF : F ≠ 0) : L = [] := by
  unfold shtR at h
  split at h
  · injection h with h1 h2; exact absurd h2.symm hF
  · injection h with h1 h2; exact h1.symm
theorem shtR_len {xs : List Rat} {L : List Rti} (h : shtR xs = (L, 0)) : L.length = xs.length := by
  unfold shtR at h
  split at h
  · injection h with h1 h2; rw [← h1, List.length_map]
  · next hne => injection h with h1 h2; exact absurd h2 hne
structure SpB (M N D n : Nat) : Prop where
  e : EfB M N D n
  a1 : D ^ n * n ≤ M
  a2 : n * (D ^ n * D ^ n * (n * (N * N) * (D * D) ^ n)) ≤ M
  a3 : n ≤ M
  a4 : N * D + N * D ≤ M
  a5 : 1 ≤ M
set_option maxRecDepth 100000 in
set_option maxHeartbeats 4000000 in
theorem SpreadOf_any {M : Nat} (hD : Hid (DivOk M)) (hM : LenB M) (hM2 : p10 2000 ≤ M) {n : Nat} (hB : Hid (n ≤ 3000 → SpB M 1000000000000 1000000000000 n)) {a : Option Addr} {cap : Nat} {l : List Psn} {w : World} {φ : Phi} (hφ : Fz φ w) (hp : PowP φ) (sl : SlV φ a cap l) (hn : Hid (l.length = n)) (hsz : Hid (∀ p ∈ l, PsnG p)) {L : List Rti} {F : Int} (hR : Hid (sprR l = (L, F))) :
    Calls Tryz.prog 12 #[.slice a n cap] w (fun e w' => e = .returned (.tuple #[sprV L, .int .i64 F]) ∧ Below w.heap.size w w') := by
  have HP := Lib.hid hp
  have HM2 := Lib.hid hM2
  have hnl : n ≤ 9223372036854775807 := by have := sl.capn; have := sl.capm; rw [hn.out] at *; unfold maxLen at *; omega
  obtain ⟨f, hf⟩ : ∃ f, Hid (pplF l = f) := ⟨_, Lib.hid rfl⟩
  have hRS := Lib.hid (RsSt.start (Inv.start hφ) #[Value.string ⟨#[]⟩, Value.string ⟨#[]⟩, Value.string ⟨#[]⟩, Value.string ⟨#[]⟩, Value.string ⟨#[]⟩, Value.string ⟨#[]⟩, Value.string ⟨#[]⟩, Value.string ⟨#[]⟩, Value.string ⟨#[]⟩, Value.string ⟨#[]⟩, Value.string ⟨#[]⟩, Value.string ⟨#[]⟩] 33)
  clear hφ hp hM2
  by_cases hf0 : f = 0
  case neg =>
    have hE : Hid (([], f) = (L, F)) := Lib.hid (by rw [← hR.out]; unfold sprR; rw [if_pos (by rw [hf.out]; exact hf0), hf.out])
    have h0i : (f == 0) = false := by simp [hf0]
    have h0j : (f != 0) = true := by simp [hf0]
    clear hf0 hB hR
    go_enter Tryz.func12, Tryz.ntmps12
    go_upto_region 1 with fail
    generalize w.alloc (.cells #[Value.string ⟨#[]⟩, Value.string ⟨#[]⟩, Value.string ⟨#[]⟩, Value.string ⟨#[]⟩, Value.string ⟨#[]⟩, Value.string ⟨#[]⟩, Value.string ⟨#[]⟩, Value.string ⟨#[]⟩, Value.string ⟨#[]⟩, Value.string ⟨#[]⟩, Value.string ⟨#[]⟩, Value.string ⟨#[]⟩] 33) = wx at *
    obtain ⟨b, hb⟩ : ∃ b, w.heap.size = b := ⟨_, rfl⟩
    rw [hb] at hRS ⊢
    have HB := Lib.hid hb
    clear hb
    go_upto_region 3 with (go_at_call 35; (with_reducible refine (peopleFault_any hD HM2.out hRS.out.inv.fz sl hn hsz hf).mono ?_); rintro e w1 ⟨rfl, hb1⟩; have hR1 := Lib.hid (hRS.out.callB hb1); clear hb1)
    obtain ⟨y0, z0, y1, z1, y2, z2, y3, z3, y4, z4, y5, z5, y6, z6, y7, z7, y8, z8, y9, z9, y10, z10, y11, z11⟩ := hR1.out.facts12
    go_wp2
    have hZ := Lib.hid (hR1.out.put12 (Value.string ⟨#[]⟩) (Value.string ⟨#[]⟩) (Value.string ⟨#[]⟩) (Value.string ⟨#[]⟩) (Value.string ⟨#[]⟩) (Value.string ⟨#[]⟩) (Value.string ⟨#[]⟩) (Value.string ⟨#[]⟩) (Value.string ⟨#[]⟩) (Value.string ⟨#[]⟩) (Value.string ⟨#[]⟩) (Value.string ⟨#[]⟩))
    have e0 : _ = some (Value.string ⟨#[]⟩) := hZ.out.k.cell 0
    have e1 : _ = some (Value.string ⟨#[]⟩) := hZ.out.k.cell 1
    have e2 : _ = some (Value.string ⟨#[]⟩) := hZ.out.k.cell 2
    have e3 : _ = some (Value.string ⟨#[]⟩) := hZ.out.k.cell 3
    have e4 : _ = some (Value.string ⟨#[]⟩) := hZ.out.k.cell 4
    have e5 : _ = some (Value.string ⟨#[]⟩) := hZ.out.k.cell 5
    have e6 : _ = some (Value.string ⟨#[]⟩) := hZ.out.k.cell 6
    have e7 : _ = some (Value.string ⟨#[]⟩) := hZ.out.k.cell 7
    have e8 : _ = some (Value.string ⟨#[]⟩) := hZ.out.k.cell 8
    have e9 : _ = some (Value.string ⟨#[]⟩) := hZ.out.k.cell 9
    have e10 : _ = some (Value.string ⟨#[]⟩) := hZ.out.k.cell 10
    have e11 : _ = some (Value.string ⟨#[]⟩) := hZ.out.k.cell 11
    (try simp only [Exit.inBlock, Exit.then])
    refine bodyPost_ret (v := .tuple #[.agg #[(Value.string ⟨#[]⟩), (Value.string ⟨#[]⟩), (Value.string ⟨#[]⟩), (Value.string ⟨#[]⟩), (Value.string ⟨#[]⟩), (Value.string ⟨#[]⟩), (Value.string ⟨#[]⟩), (Value.string ⟨#[]⟩), (Value.string ⟨#[]⟩), (Value.string ⟨#[]⟩), (Value.string ⟨#[]⟩), (Value.string ⟨#[]⟩)], .int .i64 f]) (by simp [results, Tryz.results12, go_sem, e0, e1, e2, e3, e4, e5, e6, e7, e8, e9, e10, e11]) rfl ?_
    have := hE.out
    injection this with e1 e2
    subst e1 e2
    exact ⟨rfl, hZ.out.inv.bel⟩
  case pos =>
    subst hf0
    obtain ⟨hn3', hall⟩ := pplF_ok hf.out
    rw [hn.out] at hn3' hall
    have hn3 := hn3'
    clear hn3'
    have hok : Hid (∀ p ∈ l, shoF p.1.1 p.1.2 = 0) := Lib.hid (fun p hpm => by
      obtain ⟨i, hi, e⟩ := List.getElem_of_mem hpm
      have := hall i (by rw [← hn.out]; exact hi)
      rw [getD_elem0 _ _ _ hi, e] at this
      exact (psnF_ok this).1)
    by_cases hn0 : n = 0
    case pos =>
      subst hn0
      have hE : Hid (([], 9) = (L, F)) := Lib.hid (by rw [← hR.out]; unfold sprR; rw [if_neg (by rw [hf.out]; decide), if_pos (List.eq_nil_of_length_eq_zero hn.out)])
      clear hB hR hall
      go_enter Tryz.func12, Tryz.ntmps12
      go_upto_region 1 with fail
      generalize w.alloc (.cells #[Value.string ⟨#[]⟩, Value.string ⟨#[]⟩, Value.string ⟨#[]⟩, Value.string ⟨#[]⟩, Value.string ⟨#[]⟩, Value.string ⟨#[]⟩, Value.string ⟨#[]⟩, Value.string ⟨#[]⟩, Value.string ⟨#[]⟩, Value.string ⟨#[]⟩, Value.string ⟨#[]⟩, Value.string ⟨#[]⟩] 33) = wx at *
      obtain ⟨b, hb⟩ : ∃ b, w.heap.size = b := ⟨_, rfl⟩
      rw [hb] at hRS ⊢
      have HB := Lib.hid hb
      clear hb
      go_upto_region 5 with (go_at_call 35; (with_reducible refine (peopleFault_any hD HM2.out hRS.out.inv.fz sl hn hsz hf).mono ?_); rintro e w1 ⟨rfl, hb1⟩; have hR1 := Lib.hid (hRS.out.callB hb1); clear hb1)
      obtain ⟨y0, z0, y1, z1, y2, z2, y3, z3, y4, z4, y5, z5, y6, z6, y7, z7, y8, z8, y9, z9, y10, z10, y11, z11⟩ := hR1.out.facts12
      go_wp2
      have hZ := Lib.hid (hR1.out.put12 (Value.string ⟨#[]⟩) (Value.string ⟨#[]⟩) (Value.string ⟨#[]⟩) (Value.string ⟨#[]⟩) (Value.string ⟨#[]⟩) (Value.string ⟨#[]⟩) (Value.string ⟨#[]⟩) (Value.string ⟨#[]⟩) (Value.string ⟨#[]⟩) (Value.string ⟨#[]⟩) (Value.string ⟨#[]⟩) (Value.string ⟨#[]⟩))
      have e0 : _ = some (Value.string ⟨#[]⟩) := hZ.out.k.cell 0
      have e1 : _ = some (Value.string ⟨#[]⟩) := hZ.out.k.cell 1
      have e2 : _ = some (Value.string ⟨#[]⟩) := hZ.out.k.cell 2
      have e3 : _ = some (Value.string ⟨#[]⟩) := hZ.out.k.cell 3
      have e4 : _ = some (Value.string ⟨#[]⟩) := hZ.out.k.cell 4
      have e5 : _ = some (Value.string ⟨#[]⟩) := hZ.out.k.cell 5
      have e6 : _ = some (Value.string ⟨#[]⟩) := hZ.out.k.cell 6
      have e7 : _ = some (Value.string ⟨#[]⟩) := hZ.out.k.cell 7
      have e8 : _ = some (Value.string ⟨#[]⟩) := hZ.out.k.cell 8
      have e9 : _ = some (Value.string ⟨#[]⟩) := hZ.out.k.cell 9
      have e10 : _ = some (Value.string ⟨#[]⟩) := hZ.out.k.cell 10
      have e11 : _ = some (Value.string ⟨#[]⟩) := hZ.out.k.cell 11
      (try simp only [Exit.inBlock, Exit.then])
      refine bodyPost_ret (v := .tuple #[.agg #[(Value.string ⟨#[]⟩), (Value.string ⟨#[]⟩), (Value.string ⟨#[]⟩), (Value.string ⟨#[]⟩), (Value.string ⟨#[]⟩), (Value.string ⟨#[]⟩), (Value.string ⟨#[]⟩), (Value.string ⟨#[]⟩), (Value.string ⟨#[]⟩), (Value.string ⟨#[]⟩), (Value.string ⟨#[]⟩), (Value.string ⟨#[]⟩)], .int .i64 9]) (by simp [results, Tryz.results12, go_sem, e0, e1, e2, e3, e4, e5, e6, e7, e8, e9, e10, e11]) rfl ?_
      have := hE.out
      injection this with e1 e2
      subst e1 e2
      exact ⟨rfl, hZ.out.inv.bel⟩
    case neg =>
      have hpos : Hid (0 < n) := Lib.hid (by omega)
      have h0i : ((n : Int) == 0) = false := by simp [hn0]
      obtain ⟨xs, hxs⟩ : ∃ xs, l.map (fun p => ratX p.1.1 p.1.2) = xs := ⟨_, rfl⟩
      have hxn : Hid (xs.length = n) := Lib.hid (by rw [← hxs, List.length_map, hn.out])
      have hnm : Hid ((xs.map (Fx.mk (N := 1000000000000) (D := 1000000000000))).length = n) := Lib.hid (by rw [List.length_map, hxn.out])
      have hW : l.map fxW = xs.map (Fx.mk (N := 1000000000000) (D := 1000000000000)) := by rw [← hxs, List.map_map]; rfl
      have hp0 : ∀ x ∈ xs, 0 < x := by
        intro x hx
        rw [← hxs] at hx
        obtain ⟨p, hpm, rfl⟩ := List.mem_map.1 hx
        obtain ⟨i, hi, e⟩ := List.getElem_of_mem hpm
        have := hall i (by rw [← hn.out]; exact hi)
        rw [getD_elem0 _ _ _ hi, e] at this
        exact (psnF_ok this).2
      have hne : xs ≠ [] := by intro e; have := hxn.out; rw [e] at this; simp at this; omega
      have hS0 := sumQ_pos hne hp0
      have hQ0 : 0 < sumQ (xs.map (fun x => x * x)) := sumQ_pos (by simpa using hne) (by
        intro y hy
        obtain ⟨x, hx, rfl⟩ := List.mem_map.1 hy
        exact Rat.mul_pos (hp0 x hx) (hp0 x hx))
      have hRR : sprR l = shtR (sprL xs) := by
        unfold sprR
        rw [if_neg (by rw [hf.out]; decide), if_neg (by intro e; subst e; have := hn.out; simp at this; omega), hxs]
      rw [hRR] at hR
      unfold sprL at hR
      rw [hxn.out] at hR
      clear hRR hne hp0 hall hn0 hxs
      obtain ⟨S, hS⟩ : ∃ S, Hid (sumQ xs = S) := ⟨_, Lib.hid rfl⟩
      obtain ⟨Q, hQ⟩ : ∃ S, Hid (sumQ (xs.map (fun x => x * x)) = S) := ⟨_, Lib.hid rfl⟩
      rw [hS.out] at hS0 hR
      rw [hQ.out] at hQ0 hR
      obtain ⟨E, hE⟩ : ∃ E, S * S / Q = E := ⟨_, rfl⟩
      have hE0 : E ≠ 0 := by
        intro e
        have h1 := Rat.div_mul_cancel (a := S * S) (b := Q) (by intro e2; rw [e2] at hQ0; exact absurd hQ0 (by decide))
        rw [hE, e, Rat.zero_mul] at h1
        have := Rat.mul_pos hS0 hS0
        rw [← h1] at this
        exact absurd this (by decide)
      rw [hE] at hR
      have HE0 := Lib.hid hE0
      have HE := Lib.hid hE
      have HQ0 := Lib.hid hQ0
      clear hE0 hE hS0 hQ0
      have HC7 := Lib.hid (fun W (hf9 : Fz φ W) => weightsOf_any hD HM2.out hf9 sl hn hn3 hsz hok)
      rw [hW] at HC7
      clear hW hok
      have HB := Lib.hid (hB.out hn3)
      clear hB
      obtain ⟨N, hN⟩ : ∃ N, N = 1000000000000 := ⟨_, rfl⟩
      rw [← hN] at HC7 hnm HB
      have hN1 : 1 ≤ N := by omega
      clear hN
      go_enter Tryz.func12, Tryz.ntmps12
      go_upto_region 1 with fail
      generalize w.alloc (.cells #[Value.string ⟨#[]⟩, Value.string ⟨#[]⟩, Value.string ⟨#[]⟩, Value.string ⟨#[]⟩, Value.string ⟨#[]⟩, Value.string ⟨#[]⟩, Value.string ⟨#[]⟩, Value.string ⟨#[]⟩, Value.string ⟨#[]⟩, Value.string ⟨#[]⟩, Value.string ⟨#[]⟩, Value.string ⟨#[]⟩] 33) = wx at *
      obtain ⟨b, hb⟩ : ∃ b, w.heap.size = b := ⟨_, rfl⟩
      rw [hb] at hRS ⊢
      have HBB := Lib.hid hb
      clear hb
      go_upto_region 7 with (first
        | (go_at_call 36; (with_reducible refine (HC7.out _ hR1.out.inv.fz).mono ?_); rintro e w2 ⟨a1, c1, φ1, rfl, hi2, s1⟩; rw [hnm.out]; have hR2 := Lib.hid (hR1.out.call hi2); have S1 := Lib.hid s1; have L1 := Lib.hid hi2.le; clear hi2 s1)
        | (go_at_call 35; (with_reducible refine (peopleFault_any hD HM2.out hRS.out.inv.fz sl hn hsz hf).mono ?_); rintro e w1 ⟨rfl, hb1⟩; have hR1 := Lib.hid (hRS.out.callB hb1); clear hb1))
      obtain ⟨b1, o1, rfl, f1⟩ := S1.out.fxD hnm hpos.out
      obtain ⟨g0, p0, k0, q0, p1, k1, q1, hx0, ff⟩ := f1 0 hpos.out
      have hR2d := Lib.hid (hR2.out.callB (bdrewN (Below.refl _ w2) 1))
      obtain ⟨d0, d1, d2⟩ := ff w2.drew hR2d.out.inv.fz
      have hposn : 0 < n := hpos.out
      rw [fx_getD] at hx0
      rw [Nat.zero_mul, Nat.add_zero] at d0 d1 d2
      have HX0 := Lib.hid hx0
      have hposi : (0 : Int) < n := by have := hpos.out; omega
      clear f1 ff hx0 HC7 hRS hR1
      apply wp_region_cutV (fun (i : Nat × Nat) => [(27, .slice (some ⟨b1, o1, none⟩) n c1), (28, .pointer (some ⟨b1, o1, none⟩)), (29, .agg #[.bool g0, .slice p0 k0 q0, .slice p1 k1 q1]), (30, .slice (some ⟨b1, o1, none⟩) n c1), (31, .pointer (some ⟨b1, o1, none⟩)), (32, .agg #[.bool g0, .slice p0 k0 q0, .slice p1 k1 q1]), (6, .pointer (some ⟨i.1, 0, none⟩)), (7, .pointer (some ⟨i.2, 0, none⟩))])
        (fun i W => Hid (SpS 63 w φ φ1 b i.1 #[.bool g0, .slice p0 k0 q0, .slice p1 k1 q1] i.2 #[.bool g0, .slice p0 k0 q0, .slice p1 k1 q1] W))
      case h1 =>
        intro KK hKK
        have hb1l : b1 < w2.heap.size := block_lt_of_cell (show w2.cell? ⟨b1, o1, none⟩ = some (.bool g0) from d0)
        have e0 : w2.cell? ⟨b1, o1, none⟩ = some (.bool g0) := d0
        have e1 : w2.cell? ⟨b1, o1 + 1, none⟩ = some (.slice p0 k0 q0) := d1
        have e2 : w2.cell? ⟨b1, o1 + 2, none⟩ = some (.slice p1 k1 q1) := d2
        go_region_held3 (fun w' => w'.cell? ⟨b1, o1, none⟩ = some (.bool g0) ∧ w'.cell? ⟨b1, o1 + 1, none⟩ = some (.slice p0 k0 q0) ∧ w'.cell? ⟨b1, o1 + 2, none⟩ = some (.slice p1 k1 q1)) (refine ⟨?_, ?_, ?_⟩ <;> (repeat (first | with_reducible assumption | with_reducible apply keepAP | with_reducible apply keepDr | (refine keep3 ?_ (by simp only [alloc_sz]; omega))))) (fail)
        all_goals
          refine onlyN_mk ?_
          have hk := fun x y W s => hKK.out (x, y) W s
          simp only [updA, List.foldl_cons, List.foldl_nil, List.setIfInBounds_toArray, List.set_cons_succ, List.set_cons_zero] at hk
          first
            | exact hk _ _ _ (Lib.hid (SpS.new1 hR2.out _ _))
            | exact hk _ _ _ (Lib.hid (SpS.new2 hR2.out _ _))
      case h2 =>
        rintro ⟨bl, bm⟩ W9 hF9
        simp only [updA, List.foldl_cons, List.foldl_nil, List.setIfInBounds_toArray, List.set_cons_succ, List.set_cons_zero]
        have HL0 : Hid (FfX φ1 (.agg #[.bool g0, .slice p0 k0 q0, .slice p1 k1 q1]) (lowK xs 0) N N) := HX0
        have HT0 : Hid (FfX φ1 (.agg #[.bool g0, .slice p0 k0 q0, .slice p1 k1 q1]) (topK xs 0) N N) := HX0
        clear hR2 d0 d1 d2
        go_wp2
        go_loopw [35] (fun iv wr => ∃ (k : Nat) (g1 : Bool) (a1 : Option Addr) (k1 c1 : Nat) (a2 : Option Addr) (k2 c2 : Nat) (g2 : Bool) (a3 : Option Addr) (k3 c3 : Nat) (a4 : Option Addr) (k4 c4 : Nat), k ≤ n ∧ iv = .int .i64 (k : Int) ∧ Hid (SpS 63 w φ φ1 b bl #[.bool g1, .slice a1 k1 c1, .slice a2 k2 c2] bm #[.bool g2, .slice a3 k3 c3, .slice a4 k4 c4] wr) ∧ Hid (FfX φ1 (.agg #[.bool g1, .slice a1 k1 c1, .slice a2 k2 c2]) (lowK xs k) N N) ∧ Hid (FfX φ1 (.agg #[.bool g2, .slice a3 k3 c3, .slice a4 k4 c4]) (topK xs k) N N)) (fun iv _ => n - (intOf iv).toNat)
        case atStart => exact ⟨0, g0, p0, k0, q0, p1, k1, q1, g0, p0, k0, q0, p1, k1, q1, Nat.zero_le _, rfl, hF9, HL0, HT0⟩
        case round =>
          clear hF9 HL0 HT0 HX0
          obtain ⟨k, g1, a1, k1, c1, a2, k2, c2, g2, a3, k3, c3, a4, k4, c4, hk, rfl, hS5, hV5, hU5⟩ := hrel
          by_cases hlt : k < n
          · have hlti : (k : Int) < (n : Int) := by omega
            obtain ⟨b1', o1', e1', f⟩ := S1.out.fxD hnm hlt
            cases e1'
            obtain ⟨g6, a6, k6, c6, a7, k7, c7, hx, f2⟩ := f k hlt
            obtain ⟨d0, d1, d2⟩ := f2 wr hS5.out.r.inv.fz
            rw [fx_getD] at hx
            have HX := Lib.hid hx
            obtain ⟨q1, hq1⟩ : ∃ q, Hid (cmpQ (xs.getD k 0) (lowK xs k) = q) := ⟨_, Lib.hid rfl⟩
            obtain ⟨q2, hq2⟩ : ∃ q, Hid (cmpQ (xs.getD k 0) (topK xs k) = q) := ⟨_, Lib.hid rfl⟩
            have hS6 := Lib.hid (hS5.out.callB ((Below.refl _ _).alloc (Nat.le_refl _) (.cells #[.bool g6, .slice a6 k6 c6, .slice a7 k7 c7] 63)))
            have KN := Lib.hid (Blk.new wr #[.bool g6, .slice a6 k6 c6, .slice a7 k7 c7] 63)
            have hnl1 : bl ≠ wr.heap.size := by have := hS5.out.l.k.lt; omega
            have hnm1 : bm ≠ wr.heap.size := by have := hS5.out.m.k.lt; omega
            have HNL := Lib.hid hnl1
            have HNM := Lib.hid hnm1
            clear f f2 hx hS5 hnl1 hnm1
            go_upto_region 11 with fail
            generalize wr.alloc (.cells #[.bool g6, .slice a6 k6 c6, .slice a7 k7 c7] 63) = wa at *
            generalize wr.heap.size = b5 at *
            have z0 : wa.cell? ⟨bl, 0, none⟩ = some (.bool g1) := hS6.out.l.k.cell 0
            have z1 : wa.cell? ⟨bl, 1, none⟩ = some (.slice a1 k1 c1) := hS6.out.l.k.cell 1
            have z2 : wa.cell? ⟨bl, 2, none⟩ = some (.slice a2 k2 c2) := hS6.out.l.k.cell 2
            have u0 : wa.cell? ⟨b5, 0, none⟩ = some (.bool g6) := KN.out.cell 0
            have u1 : wa.cell? ⟨b5, 1, none⟩ = some (.slice a6 k6 c6) := KN.out.cell 1
            have u2 : wa.cell? ⟨b5, 2, none⟩ = some (.slice a7 k7 c7) := KN.out.cell 2
            clear d0 d1 d2
            by_cases hn1 : q1 < 0
            · go_upto_region 13 with (go_at_call 29; (with_reducible refine (Compare_any hM hS6.out.r.inv.fz HX.out hV5.out HB.out.a4 HB.out.e.a10 hq1).mono ?_); rintro e w7 ⟨rfl, hb7⟩; have S7 := Lib.hid (hS6.out.callB hb7); have K7 := Lib.hid (KN.out.callB hb7); have r0 : w7.cell? ⟨b5, 0, none⟩ = some (.bool g6) := K7.out.cell 0; have r1 : w7.cell? ⟨b5, 1, none⟩ = some (.slice a6 k6 c6) := K7.out.cell 1; have r2 : w7.cell? ⟨b5, 2, none⟩ = some (.slice a7 k7 c7) := K7.out.cell 2; have r3 := S7.out.l.k.frz 0; have r4 := S7.out.l.k.frz 1; have r5 := S7.out.l.k.frz 2; have r6 : w7.cell? ⟨bl, 0, none⟩ = some (.bool g1) := S7.out.l.k.cell 0; have r7 : w7.cell? ⟨bl, 1, none⟩ = some (.slice a1 k1 c1) := S7.out.l.k.cell 1; have r8 : w7.cell? ⟨bl, 2, none⟩ = some (.slice a2 k2 c2) := S7.out.l.k.cell 2; clear hb7)
              clear z0 z1 z2 u0 u1 u2 r0 r1 r2 r3 r4 r5 r6 r7 r8
              have S8 := Lib.hid (((S7.out.setL 0 (.bool g6)).setL 1 (.slice a6 k6 c6)).setL 2 (.slice a7 k7 c7))
              have K8 := Lib.hid (((K7.out.other (a := ⟨bl, 0, none⟩) HNL.out (.bool g6)).other (a := ⟨bl, 1, none⟩) HNL.out (.slice a6 k6 c6)).other (a := ⟨bl, 2, none⟩) HNL.out (.slice a7 k7 c7))
              have PL : Hid (FfX φ1 (.agg #[.bool g6, .slice a6 k6 c6, .slice a7 k7 c7]) (lowK xs (k + 1)) N N) := Lib.hid (by rw [lowK_lt hq1.out (by omega)]; exact HX.out)
              clear hn1 S7 K7
              generalize ((w7.setCell ⟨bl, 0, none⟩ (.bool g6)).setCell ⟨bl, 1, none⟩ (.slice a6 k6 c6)).setCell ⟨bl, 2, none⟩ (.slice a7 k7 c7) = w8 at *
              have v0 : w8.cell? ⟨b5, 0, none⟩ = some (.bool g6) := K8.out.cell 0
              have v1 : w8.cell? ⟨b5, 1, none⟩ = some (.slice a6 k6 c6) := K8.out.cell 1
              have v2 : w8.cell? ⟨b5, 2, none⟩ = some (.slice a7 k7 c7) := K8.out.cell 2
              have v3 : w8.cell? ⟨bm, 0, none⟩ = some (.bool g2) := S8.out.m.k.cell 0
              have v4 : w8.cell? ⟨bm, 1, none⟩ = some (.slice a3 k3 c3) := S8.out.m.k.cell 1
              have v5 : w8.cell? ⟨bm, 2, none⟩ = some (.slice a4 k4 c4) := S8.out.m.k.cell 2
              by_cases hn2 : 0 < q2
              · go_upto_region 15 with (go_at_call 29; (with_reducible refine (Compare_any hM S8.out.r.inv.fz HX.out hU5.out HB.out.a4 HB.out.e.a10 hq2).mono ?_); rintro e w9 ⟨rfl, hb9⟩; have S9 := Lib.hid (S8.out.callB hb9); have K9 := Lib.hid (K8.out.callB hb9); have r0 : w9.cell? ⟨b5, 0, none⟩ = some (.bool g6) := K9.out.cell 0; have r1 : w9.cell? ⟨b5, 1, none⟩ = some (.slice a6 k6 c6) := K9.out.cell 1; have r2 : w9.cell? ⟨b5, 2, none⟩ = some (.slice a7 k7 c7) := K9.out.cell 2; have r3 := S9.out.m.k.frz 0; have r4 := S9.out.m.k.frz 1; have r5 := S9.out.m.k.frz 2; have r6 : w9.cell? ⟨bm, 0, none⟩ = some (.bool g2) := S9.out.m.k.cell 0; have r7 : w9.cell? ⟨bm, 1, none⟩ = some (.slice a3 k3 c3) := S9.out.m.k.cell 1; have r8 : w9.cell? ⟨bm, 2, none⟩ = some (.slice a4 k4 c4) := S9.out.m.k.cell 2; clear hb9)
                have SA := Lib.hid (((S9.out.setM 0 (.bool g6)).setM 1 (.slice a6 k6 c6)).setM 2 (.slice a7 k7 c7))
                have PT : Hid (FfX φ1 (.agg #[.bool g6, .slice a6 k6 c6, .slice a7 k7 c7]) (topK xs (k + 1)) N N) := Lib.hid (by rw [topK_gt hq2.out (by omega)]; exact HX.out)
                clear v0 v1 v2 v3 v4 v5 r0 r1 r2 r3 r4 r5 r6 r7 r8 hn2
                generalize ((w9.setCell ⟨bm, 0, none⟩ (.bool g6)).setCell ⟨bm, 1, none⟩ (.slice a6 k6 c6)).setCell ⟨bm, 2, none⟩ (.slice a7 k7 c7) = wz at *
                go_wp2
                go_roundw
                case rel => exact ⟨k + 1, g6, a6, k6, c6, a7, k7, c7, g6, a6, k6, c6, a7, k7, c7, by omega, by go_num, SA, PL, PT⟩
                case measure => (simp [intOf] <;> omega)
              · go_upto_region 15 with (go_at_call 29; (with_reducible refine (Compare_any hM S8.out.r.inv.fz HX.out hU5.out HB.out.a4 HB.out.e.a10 hq2).mono ?_); rintro e w9 ⟨rfl, hb9⟩; have S9 := Lib.hid (S8.out.callB hb9); clear hb9)
                have PT : Hid (FfX φ1 (.agg #[.bool g2, .slice a3 k3 c3, .slice a4 k4 c4]) (topK xs (k + 1)) N N) := Lib.hid (by rw [topK_le hq2.out (by omega)]; exact hU5.out)
                clear v0 v1 v2 v3 v4 v5 hn2
                go_wp2
                go_roundw
                case rel => exact ⟨k + 1, g6, a6, k6, c6, a7, k7, c7, g2, a3, k3, c3, a4, k4, c4, by omega, by go_num, S9, PL, PT⟩
                case measure => (simp [intOf] <;> omega)
            · go_upto_region 13 with (go_at_call 29; (with_reducible refine (Compare_any hM hS6.out.r.inv.fz HX.out hV5.out HB.out.a4 HB.out.e.a10 hq1).mono ?_); rintro e w7 ⟨rfl, hb7⟩; have S7 := Lib.hid (hS6.out.callB hb7); have K7 := Lib.hid (KN.out.callB hb7); have r0 : w7.cell? ⟨b5, 0, none⟩ = some (.bool g6) := K7.out.cell 0; have r1 : w7.cell? ⟨b5, 1, none⟩ = some (.slice a6 k6 c6) := K7.out.cell 1; have r2 : w7.cell? ⟨b5, 2, none⟩ = some (.slice a7 k7 c7) := K7.out.cell 2; have r3 := S7.out.l.k.frz 0; have r4 := S7.out.l.k.frz 1; have r5 := S7.out.l.k.frz 2; have r6 : w7.cell? ⟨bl, 0, none⟩ = some (.bool g1) := S7.out.l.k.cell 0; have r7 : w7.cell? ⟨bl, 1, none⟩ = some (.slice a1 k1 c1) := S7.out.l.k.cell 1; have r8 : w7.cell? ⟨bl, 2, none⟩ = some (.slice a2 k2 c2) := S7.out.l.k.cell 2; clear hb7)
              clear z0 z1 z2 u0 u1 u2 r0 r1 r2 r3 r4 r5 r6 r7 r8
              have S8 := S7
              have K8 := K7
              have PL : Hid (FfX φ1 (.agg #[.bool g1, .slice a1 k1 c1, .slice a2 k2 c2]) (lowK xs (k + 1)) N N) := Lib.hid (by rw [lowK_ge hq1.out (by omega)]; exact hV5.out)
              clear hn1 S7 K7
              generalize w7 = w8 at *
              have v0 : w8.cell? ⟨b5, 0, none⟩ = some (.bool g6) := K8.out.cell 0
              have v1 : w8.cell? ⟨b5, 1, none⟩ = some (.slice a6 k6 c6) := K8.out.cell 1
              have v2 : w8.cell? ⟨b5, 2, none⟩ = some (.slice a7 k7 c7) := K8.out.cell 2
              have v3 : w8.cell? ⟨bm, 0, none⟩ = some (.bool g2) := S8.out.m.k.cell 0
              have v4 : w8.cell? ⟨bm, 1, none⟩ = some (.slice a3 k3 c3) := S8.out.m.k.cell 1
              have v5 : w8.cell? ⟨bm, 2, none⟩ = some (.slice a4 k4 c4) := S8.out.m.k.cell 2
              by_cases hn2 : 0 < q2
              · go_upto_region 15 with (go_at_call 29; (with_reducible refine (Compare_any hM S8.out.r.inv.fz HX.out hU5.out HB.out.a4 HB.out.e.a10 hq2).mono ?_); rintro e w9 ⟨rfl, hb9⟩; have S9 := Lib.hid (S8.out.callB hb9); have K9 := Lib.hid (K8.out.callB hb9); have r0 : w9.cell? ⟨b5, 0, none⟩ = some (.bool g6) := K9.out.cell 0; have r1 : w9.cell? ⟨b5, 1, none⟩ = some (.slice a6 k6 c6) := K9.out.cell 1; have r2 : w9.cell? ⟨b5, 2, none⟩ = some (.slice a7 k7 c7) := K9.out.cell 2; have r3 := S9.out.m.k.frz 0; have r4 := S9.out.m.k.frz 1; have r5 := S9.out.m.k.frz 2; have r6 : w9.cell? ⟨bm, 0, none⟩ = some (.bool g2) := S9.out.m.k.cell 0; have r7 : w9.cell? ⟨bm, 1, none⟩ = some (.slice a3 k3 c3) := S9.out.m.k.cell 1; have r8 : w9.cell? ⟨bm, 2, none⟩ = some (.slice a4 k4 c4) := S9.out.m.k.cell 2; clear hb9)
                have SA := Lib.hid (((S9.out.setM 0 (.bool g6)).setM 1 (.slice a6 k6 c6)).setM 2 (.slice a7 k7 c7))
                have PT : Hid (FfX φ1 (.agg #[.bool g6, .slice a6 k6 c6, .slice a7 k7 c7]) (topK xs (k + 1)) N N) := Lib.hid (by rw [topK_gt hq2.out (by omega)]; exact HX.out)
                clear v0 v1 v2 v3 v4 v5 r0 r1 r2 r3 r4 r5 r6 r7 r8 hn2
                generalize ((w9.setCell ⟨bm, 0, none⟩ (.bool g6)).setCell ⟨bm, 1, none⟩ (.slice a6 k6 c6)).setCell ⟨bm, 2, none⟩ (.slice a7 k7 c7) = wz at *
                go_wp2
                go_roundw
                case rel => exact ⟨k + 1, g1, a1, k1, c1, a2, k2, c2, g6, a6, k6, c6, a7, k7, c7, by omega, by go_num, SA, PL, PT⟩
                case measure => (simp [intOf] <;> omega)
              · go_upto_region 15 with (go_at_call 29; (with_reducible refine (Compare_any hM S8.out.r.inv.fz HX.out hU5.out HB.out.a4 HB.out.e.a10 hq2).mono ?_); rintro e w9 ⟨rfl, hb9⟩; have S9 := Lib.hid (S8.out.callB hb9); clear hb9)
                have PT : Hid (FfX φ1 (.agg #[.bool g2, .slice a3 k3 c3, .slice a4 k4 c4]) (topK xs (k + 1)) N N) := Lib.hid (by rw [topK_le hq2.out (by omega)]; exact hU5.out)
                clear v0 v1 v2 v3 v4 v5 hn2
                go_wp2
                go_roundw
                case rel => exact ⟨k + 1, g1, a1, k1, c1, a2, k2, c2, g2, a3, k3, c3, a4, k4, c4, by omega, by go_num, S9, PL, PT⟩
                case measure => (simp [intOf] <;> omega)
          · obtain rfl : k = n := by omega
            obtain ⟨φ2, hl2, hR2, eL, eM⟩ := hS5.out.frz
            have R2 := Lib.hid hR2
            have S2 := Lib.hid (S1.out.mono hl2)
            have VL := Lib.hid (hV5.out.mono hl2)
            have VM := Lib.hid (hU5.out.mono hl2)
            have EL := Lib.hid eL
            have EM := Lib.hid eM
            have HC0 := Lib.hid (fun (ψ : Phi) W (hf9 : Fz ψ W) => FracInt_any (n := (k : Int)) (by omega) (by omega) hf9)
            rw [show ((k : Int)).natAbs = k from Int.natAbs_natCast k] at HC0
            clear hS5 hV5 hU5 hR2 eL eM hl2 S1 hlt
            go_upto_region 18 with (first
              | (go_at_call 38; (with_reducible refine (Effective_any hD hM hN1 hn3 (Lib.hid HB.out.e) R7.out.inv.fz (S2.out.mono L7.out) hxn hS hQ HQ0.out).mono ?_); rintro e w8 ⟨v8, φ8, rfl, hi8, hv8⟩; obtain ⟨g8, n8, m8, k8, k8', a8, c8, a8', c8', rfl, _⟩ := hv8.open; have R8 := Lib.hid (R7.out.call hi8); have V8 := Lib.hid hv8; have V78 := Lib.hid (V7.out.mono hi8.le); have L8 := Lib.hid (L7.out.trans hi8.le); have E58 := Lib.hid (hi8.le _ _ E57.out); have V58 := Lib.hid (V57.out.mono hi8.le); clear hi8 hv8)
              | (go_at_call 37; (with_reducible refine (SumOf_any hD hM hN1 HB.out.e.a1 HB.out.e.a2 R6.out.inv.fz (S2.out.mono L6.out) hxn hS).mono ?_); rintro e w7 ⟨v7, φ7, rfl, hi7, hv7⟩; obtain ⟨g7, n7, m7, k7, k7', a7, c7, a7', c7', rfl, _⟩ := hv7.open; have R7 := Lib.hid (R6.out.call hi7); have V7 := Lib.hid hv7; have L7 := Lib.hid (L6.out.trans hi7.le); have E57 := Lib.hid (hi7.le _ _ E56.out); have V57 := Lib.hid (V56.out.mono hi7.le); clear hi7 hv7)
              | (go_at_call 30; (with_reducible refine (HC0.out φ2 _ R2.out.inv.fz).mono ?_); rintro e w5 ⟨v5, φ5, rfl, hi5, hv5⟩; obtain ⟨g5, n5, m5, k5, k5', a5, c5, a5', c5', rfl, _⟩ := hv5.open; have hR5 := R2.out.call hi5; obtain ⟨φ6, l6, i6, e6⟩ := (Inv.start hR5.inv.fz).frz (.cells #[.bool g5, .slice a5 k5 c5, .slice a5' k5' c5'] 63); have R6 := Lib.hid (hR5.call i6); have E56 := Lib.hid e6; have V56 := Lib.hid (hv5.mono l6); have L6 := Lib.hid (hi5.le.trans l6); clear hi5 hv5 hR5 l6 i6 e6))
            obtain ⟨φa, la, ia, ea⟩ := (Inv.start R8.out.inv.fz).frz (.cells #[.bool g7, .slice a7 k7 c7, .slice a7' k7' c7'] 63)
            obtain ⟨φb, lb, ib, eb⟩ := ia.frz (.cells #[.bool g8, .slice a8 k8 c8, .slice a8' k8' c8'] 63)
            have R9 := Lib.hid (R8.out.call ib)
            have E7 := Lib.hid (lb _ _ ea)
            rw [alloc_sz] at eb
            have E8 := Lib.hid eb
            have E5 := Lib.hid (ib.le _ _ E58.out)
            have L9 := L8.out.trans ib.le
            have hR9le := R9.out.inv.le
            have E1 := Lib.hid (L9 _ _ EL.out)
            have E2 := Lib.hid (L9 _ _ EM.out)
            have W1 := Lib.hid (VL.out.mono L9)
            have W2 := Lib.hid (VM.out.mono L9)
            have W5 := Lib.hid (V58.out.mono ib.le)
            have W7 := Lib.hid (V78.out.mono ib.le)
            have W8 := Lib.hid (V8.out.mono ib.le)
            clear ia ea ib eb la lb R2 R6 R7 R8 V7 V78 V8 V57 V58 E56 E57 E58 L6 L7 L8 VL VM EL EM HC0 S2 V56
            generalize (w8.alloc (.cells #[.bool g7, .slice a7 k7 c7, .slice a7' k7' c7'] 63)).alloc (.cells #[.bool g8, .slice a8 k8 c8, .slice a8' k8' c8'] 63) = wy at *
            generalize w8.heap.size = b11 at *
            generalize w5.heap.size = b10 at *
            have hcf := Lib.hid (fun (ψ : Phi) (W : World) (hl : φb.le ψ) (hf : Fz ψ W) => (⟨box_cell E7.out hl hf 0, box_cell E7.out hl hf 1, box_cell E7.out hl hf 2, box_cell E1.out hl hf 0, box_cell E1.out hl hf 1, box_cell E1.out hl hf 2, box_cell E2.out hl hf 0, box_cell E2.out hl hf 1, box_cell E2.out hl hf 2, box_cell E5.out hl hf 0, box_cell E5.out hl hf 1, box_cell E5.out hl hf 2, box_cell E8.out hl hf 0, box_cell E8.out hl hf 1, box_cell E8.out hl hf 2⟩ : W.cell? ⟨b11, 0, none⟩ = some (.bool g7) ∧ W.cell? ⟨b11, 1, none⟩ = some (.slice a7 k7 c7) ∧ W.cell? ⟨b11, 2, none⟩ = some (.slice a7' k7' c7') ∧ W.cell? ⟨bl, 0, none⟩ = some (.bool g1) ∧ W.cell? ⟨bl, 1, none⟩ = some (.slice a1 k1 c1) ∧ W.cell? ⟨bl, 2, none⟩ = some (.slice a2 k2 c2) ∧ W.cell? ⟨bm, 0, none⟩ = some (.bool g2) ∧ W.cell? ⟨bm, 1, none⟩ = some (.slice a3 k3 c3) ∧ W.cell? ⟨bm, 2, none⟩ = some (.slice a4 k4 c4) ∧ W.cell? ⟨b10, 0, none⟩ = some (.bool g5) ∧ W.cell? ⟨b10, 1, none⟩ = some (.slice a5 k5 c5) ∧ W.cell? ⟨b10, 2, none⟩ = some (.slice a5' k5' c5') ∧ W.cell? ⟨b11 + 1, 0, none⟩ = some (.bool g8) ∧ W.cell? ⟨b11 + 1, 1, none⟩ = some (.slice a8 k8 c8) ∧ W.cell? ⟨b11 + 1, 2, none⟩ = some (.slice a8' k8' c8')))
            have RD : Hid (RsSt w φ φb b #[Value.string ⟨#[]⟩, Value.string ⟨#[]⟩, Value.string ⟨#[]⟩, Value.string ⟨#[]⟩, Value.string ⟨#[]⟩, Value.string ⟨#[]⟩, Value.string ⟨#[]⟩, Value.string ⟨#[]⟩, Value.string ⟨#[]⟩, Value.string ⟨#[]⟩, Value.string ⟨#[]⟩, Value.string ⟨#[]⟩] 33 wy.drew) := Lib.hid (R9.out.callB (bdrewN (Below.refl _ wy) 1))
            have HK0 : Hid (((k : Int) : Rat) ≠ 0) := Lib.hid (by have := hpos.out; simp; omega)
            obtain ⟨x0, x1, x2, x3, x4, x5, x6, x7, x8, x9, x10, x11, x12, x13, x14⟩ := hcf.out φb wy.drew φb.le_refl RD.out.inv.fz
            obtain ⟨⟨y1, y2, y3, y4, y5, y6, y7, y8, y9, y10, y11⟩, s1, s2, s3, s4, s5⟩ := HB.out
            generalize hNB : k * N * N ^ k = NB at *
            generalize hDB : N ^ k = DB at *
            generalize hQN : k * (N * N) * (N * N) ^ k = QN at *
            generalize hQD : (N * N) ^ k = QD at *
            have MS := Lib.hid (And.intro (show NB * 1 ≤ M by omega) (And.intro s1 s5))
            have ME := Lib.hid (And.intro s2 (And.intro (show 1 * (NB * NB * QD) ≤ M by omega) y8))
            have W7M := Lib.hid (W7.out.le y1 y2)
            have W1M := Lib.hid (W1.out.le y11 y11)
            have W2M := Lib.hid (W2.out.le y11 y11)
            have W8M := Lib.hid (W8.out.le y7 y8)
            rw [HE.out] at W8 W8M
            have hp9 := Lib.hid (HP.out.mono (hR9le))
            clear y1 y2 y3 y4 y5 y6 y7 y8 y9 y10 y11 s1 s2 s3 s4 s5 hNB hDB hQN hQD HB W1 W2 E1 E2 E5 E7 E8 R9
            go_region_held3 (fun w' => w'.cell? ⟨b11, 0, none⟩ = some (.bool g7) ∧ w'.cell? ⟨b11, 1, none⟩ = some (.slice a7 k7 c7) ∧ w'.cell? ⟨b11, 2, none⟩ = some (.slice a7' k7' c7') ∧ w'.cell? ⟨bl, 0, none⟩ = some (.bool g1) ∧ w'.cell? ⟨bl, 1, none⟩ = some (.slice a1 k1 c1) ∧ w'.cell? ⟨bl, 2, none⟩ = some (.slice a2 k2 c2) ∧ w'.cell? ⟨bm, 0, none⟩ = some (.bool g2) ∧ w'.cell? ⟨bm, 1, none⟩ = some (.slice a3 k3 c3) ∧ w'.cell? ⟨bm, 2, none⟩ = some (.slice a4 k4 c4) ∧ w'.cell? ⟨b10, 0, none⟩ = some (.bool g5) ∧ w'.cell? ⟨b10, 1, none⟩ = some (.slice a5 k5 c5) ∧ w'.cell? ⟨b10, 2, none⟩ = some (.slice a5' k5' c5') ∧ w'.cell? ⟨b11 + 1, 0, none⟩ = some (.bool g8) ∧ w'.cell? ⟨b11 + 1, 1, none⟩ = some (.slice a8 k8 c8) ∧ w'.cell? ⟨b11 + 1, 2, none⟩ = some (.slice a8' k8' c8')) (first | with_reducible exact ⟨x0, x1, x2, x3, x4, x5, x6, x7, x8, x9, x10, x11, x12, x13, x14⟩ | with_reducible exact ⟨by assumption, by assumption, by assumption, by assumption, by assumption, by assumption, by assumption, by assumption, by assumption, by assumption, by assumption, by assumption, by assumption, by assumption, by assumption⟩ | exact ⟨keepAP (by with_reducible assumption), keepAP (by with_reducible assumption), keepAP (by with_reducible assumption), keepAP (by with_reducible assumption), keepAP (by with_reducible assumption), keepAP (by with_reducible assumption), keepAP (by with_reducible assumption), keepAP (by with_reducible assumption), keepAP (by with_reducible assumption), keepAP (by with_reducible assumption), keepAP (by with_reducible assumption), keepAP (by with_reducible assumption), keepAP (by with_reducible assumption), keepAP (by with_reducible assumption), keepAP (by with_reducible assumption)⟩) (first
              | ((with_reducible refine (Ratios_lit hD hM RC.out.inv.fz (hp9.out.mono LC.out) (W7M.out.mono LC.out) (W1M.out.mono LC.out) (W2M.out.mono LC.out) VBM.out (W8M.out.mono LC.out) VCM.out hR).mono ?_); rintro e wF ⟨aR, cR, φF, rfl, hiF, hvF⟩; have RF := Lib.hid (RC.out.call hiF); have VF := Lib.hid hvF; obtain ⟨f0, f1, f2, f3, f4, f5, f6, f7, f8, f9, f10, f11, f12, f13, f14⟩ := hcf.out φF wF (LC.out.trans hiF.le) RF.out.inv.fz; clear hiF hvF)
              | ((with_reducible refine (Over_any hD hM RB.out.inv.fz (W5.out.mono LB.out) (W8.out.mono LB.out) HE0.out ME.out.1 ME.out.2.1 ME.out.2.2).mono ?_); rintro e wC ⟨vC, φC, rfl, hiC, hvC⟩; obtain ⟨gC, nC, mC, kC, kC', aC, cC, aC', cC', rfl, _⟩ := hvC.open; have RC := Lib.hid (RB.out.call hiC); have VCM := Lib.hid (hvC.le ME.out.1 ME.out.2.1); have VBM := Lib.hid ((VB.out.le MS.out.1 MS.out.2.1).mono hiC.le); have LC := Lib.hid (LB.out.trans hiC.le); obtain ⟨e0, e1, e2, e3, e4, e5, e6, e7, e8, e9, e10, e11, e12, e13, e14⟩ := hcf.out φC wC LC.out RC.out.inv.fz; clear hiC hvC)
              | ((with_reducible refine (Over_any hD hM RD.out.inv.fz W7.out W5.out HK0.out MS.out.1 MS.out.2.1 MS.out.2.2).mono ?_); rintro e wB ⟨vB, φB, rfl, hiB, hvB⟩; obtain ⟨gB, nB, mB, kB, kB', aB, cB, aB', cB', rfl, _⟩ := hvB.open; have RB := Lib.hid (RD.out.call hiB); have VB := Lib.hid hvB; have LB := Lib.hid hiB.le; obtain ⟨d0, d1, d2, d3, d4, d5, d6, d7, d8, d9, d10, d11, d12, d13, d14⟩ := hcf.out φB wB LB.out RB.out.inv.fz; clear hiB hvB))
            clear x0 x1 x2 x3 x4 x5 x6 x7 x8 x9 x10 x11 x12 x13 x14 d0 d1 d2 d3 d4 d5 d6 d7 d8 d9 d10 d11 d12 d13 d14 e0 e1 e2 e3 e4 e5 e6 e7 e8 e9 e10 e11 e12 e13 e14 f0 f1 f2 f3 f4 f5 f6 f7 f8 f9 f10 f11 f12 f13 f14
            by_cases hF0 : F = 0
            · subst hF0
              have hL6 : Hid (L.length = 6) := Lib.hid (shtR_len hR.out)
              rw [hL6.out]
              obtain ⟨br, oR, rfl, fR⟩ := VF.out.rtisD hL6 (k := 0) (by decide)
              have hRFd : Hid (RsSt w φ φF b #[Value.string ⟨#[]⟩, Value.string ⟨#[]⟩, Value.string ⟨#[]⟩, Value.string ⟨#[]⟩, Value.string ⟨#[]⟩, Value.string ⟨#[]⟩, Value.string ⟨#[]⟩, Value.string ⟨#[]⟩, Value.string ⟨#[]⟩, Value.string ⟨#[]⟩, Value.string ⟨#[]⟩, Value.string ⟨#[]⟩] 33 wF.drew) := Lib.hid (RF.out.callB (bdrewN (Below.refl _ wF) 1))
              obtain ⟨v0, v1⟩ := fR 0 (by decide) wF.drew hRFd.out.inv.fz
              obtain ⟨v2, v3⟩ := fR 1 (by decide) wF.drew hRFd.out.inv.fz
              obtain ⟨v4, v5⟩ := fR 2 (by decide) wF.drew hRFd.out.inv.fz
              obtain ⟨v6, v7⟩ := fR 3 (by decide) wF.drew hRFd.out.inv.fz
              obtain ⟨v8, v9⟩ := fR 4 (by decide) wF.drew hRFd.out.inv.fz
              obtain ⟨v10, v11⟩ := fR 5 (by decide) wF.drew hRFd.out.inv.fz
              have hSV : Hid (sprV L = .agg #[.string (L.getD 0 rti0).1, .string (L.getD 0 rti0).2, .string (L.getD 1 rti0).1, .string (L.getD 1 rti0).2, .string (L.getD 2 rti0).1, .string (L.getD 2 rti0).2, .string (L.getD 3 rti0).1, .string (L.getD 3 rti0).2, .string (L.getD 4 rti0).1, .string (L.getD 4 rti0).2, .string (L.getD 5 rti0).1, .string (L.getD 5 rti0).2]) := Lib.hid rfl
              obtain ⟨s0, hs0⟩ : ∃ s, (L.getD 0 rti0).1 = s := ⟨_, rfl⟩
              obtain ⟨t0, ht0⟩ : ∃ s, (L.getD 0 rti0).2 = s := ⟨_, rfl⟩
              obtain ⟨s1, hs1⟩ : ∃ s, (L.getD 1 rti0).1 = s := ⟨_, rfl⟩
              obtain ⟨t1, ht1⟩ : ∃ s, (L.getD 1 rti0).2 = s := ⟨_, rfl⟩
              obtain ⟨s2, hs2⟩ : ∃ s, (L.getD 2 rti0).1 = s := ⟨_, rfl⟩
              obtain ⟨t2, ht2⟩ : ∃ s, (L.getD 2 rti0).2 = s := ⟨_, rfl⟩
              obtain ⟨s3, hs3⟩ : ∃ s, (L.getD 3 rti0).1 = s := ⟨_, rfl⟩
              obtain ⟨t3, ht3⟩ : ∃ s, (L.getD 3 rti0).2 = s := ⟨_, rfl⟩
              obtain ⟨s4, hs4⟩ : ∃ s, (L.getD 4 rti0).1 = s := ⟨_, rfl⟩
              obtain ⟨t4, ht4⟩ : ∃ s, (L.getD 4 rti0).2 = s := ⟨_, rfl⟩
              obtain ⟨s5, hs5⟩ : ∃ s, (L.getD 5 rti0).1 = s := ⟨_, rfl⟩
              obtain ⟨t5, ht5⟩ : ∃ s, (L.getD 5 rti0).2 = s := ⟨_, rfl⟩
              rw [hs0, ht0, hs1, ht1, hs2, ht2, hs3, ht3, hs4, ht4, hs5, ht5] at hSV
              rw [hs0] at v0
              rw [ht0] at v1
              rw [hs1] at v2
              rw [ht1] at v3
              rw [hs2] at v4
              rw [ht2] at v5
              rw [hs3] at v6
              rw [ht3] at v7
              rw [hs4] at v8
              rw [ht4] at v9
              rw [hs5] at v10
              rw [ht5] at v11
              have v0 : wF.drew.cell? ⟨br, oR, none⟩ = some (.string s0) := v0
              have v1 : wF.drew.cell? ⟨br, oR + 1, none⟩ = some (.string t0) := v1
              have v2 : wF.drew.cell? ⟨br, oR + 2, none⟩ = some (.string s1) := v2
              have v3 : wF.drew.cell? ⟨br, oR + 3, none⟩ = some (.string t1) := v3
              have v4 : wF.drew.cell? ⟨br, oR + 4, none⟩ = some (.string s2) := v4
              have v5 : wF.drew.cell? ⟨br, oR + 5, none⟩ = some (.string t2) := v5
              have v6 : wF.drew.cell? ⟨br, oR + 6, none⟩ = some (.string s3) := v6
              have v7 : wF.drew.cell? ⟨br, oR + 7, none⟩ = some (.string t3) := v7
              have v8 : wF.drew.cell? ⟨br, oR + 8, none⟩ = some (.string s4) := v8
              have v9 : wF.drew.cell? ⟨br, oR + 9, none⟩ = some (.string t4) := v9
              have v10 : wF.drew.cell? ⟨br, oR + 10, none⟩ = some (.string s5) := v10
              have v11 : wF.drew.cell? ⟨br, oR + 11, none⟩ = some (.string t5) := v11
              clear fR VF hs0 ht0 hs1 ht1 hs2 ht2 hs3 ht3 hs4 ht4 hs5 ht5
              go_upto_region 21 with fail
              go_still_tail 19, (by kernel_rfl)
              change wpList _ _ _ _ _ wF.drew
              clear v0 v1 v2 v3 v4 v5 v6 v7 v8 v9 v10 v11
              generalize wF.drew = wG at *
              obtain ⟨y0, z0, y1, z1, y2, z2, y3, z3, y4, z4, y5, z5, y6, z6, y7, z7, y8, z8, y9, z9, y10, z10, y11, z11⟩ := hRFd.out.facts12
              go_wp2
              have hZ := Lib.hid (hRFd.out.put12 (Value.string s0) (Value.string t0) (Value.string s1) (Value.string t1) (Value.string s2) (Value.string t2) (Value.string s3) (Value.string t3) (Value.string s4) (Value.string t4) (Value.string s5) (Value.string t5))
              have e0 : _ = some (Value.string s0) := hZ.out.k.cell 0
              have e1 : _ = some (Value.string t0) := hZ.out.k.cell 1
              have e2 : _ = some (Value.string s1) := hZ.out.k.cell 2
              have e3 : _ = some (Value.string t1) := hZ.out.k.cell 3
              have e4 : _ = some (Value.string s2) := hZ.out.k.cell 4
              have e5 : _ = some (Value.string t2) := hZ.out.k.cell 5
              have e6 : _ = some (Value.string s3) := hZ.out.k.cell 6
              have e7 : _ = some (Value.string t3) := hZ.out.k.cell 7
              have e8 : _ = some (Value.string s4) := hZ.out.k.cell 8
              have e9 : _ = some (Value.string t4) := hZ.out.k.cell 9
              have e10 : _ = some (Value.string s5) := hZ.out.k.cell 10
              have e11 : _ = some (Value.string t5) := hZ.out.k.cell 11
              (try simp only [Exit.inBlock, Exit.then])
              refine bodyPost_ret (v := .tuple #[.agg #[(Value.string s0), (Value.string t0), (Value.string s1), (Value.string t1), (Value.string s2), (Value.string t2), (Value.string s3), (Value.string t3), (Value.string s4), (Value.string t4), (Value.string s5), (Value.string t5)], .int .i64 0]) (by simp [results, Tryz.results12, go_sem, e0, e1, e2, e3, e4, e5, e6, e7, e8, e9, e10, e11]) rfl ?_
              exact ⟨by rw [hSV.out], hZ.out.inv.bel⟩
            · obtain rfl := shtR_nil hR.out hF0
              have h0i : (F == 0) = false := by simp [hF0]
              have h0j : (F != 0) = true := by simp [hF0]
              obtain ⟨y0, z0, y1, z1, y2, z2, y3, z3, y4, z4, y5, z5, y6, z6, y7, z7, y8, z8, y9, z9, y10, z10, y11, z11⟩ := RF.out.facts12
              clear hF0
              go_wp2
              have hZ := Lib.hid (RF.out.put12 (Value.string ⟨#[]⟩) (Value.string ⟨#[]⟩) (Value.string ⟨#[]⟩) (Value.string ⟨#[]⟩) (Value.string ⟨#[]⟩) (Value.string ⟨#[]⟩) (Value.string ⟨#[]⟩) (Value.string ⟨#[]⟩) (Value.string ⟨#[]⟩) (Value.string ⟨#[]⟩) (Value.string ⟨#[]⟩) (Value.string ⟨#[]⟩))
              have e0 : _ = some (Value.string ⟨#[]⟩) := hZ.out.k.cell 0
              have e1 : _ = some (Value.string ⟨#[]⟩) := hZ.out.k.cell 1
              have e2 : _ = some (Value.string ⟨#[]⟩) := hZ.out.k.cell 2
              have e3 : _ = some (Value.string ⟨#[]⟩) := hZ.out.k.cell 3
              have e4 : _ = some (Value.string ⟨#[]⟩) := hZ.out.k.cell 4
              have e5 : _ = some (Value.string ⟨#[]⟩) := hZ.out.k.cell 5
              have e6 : _ = some (Value.string ⟨#[]⟩) := hZ.out.k.cell 6
              have e7 : _ = some (Value.string ⟨#[]⟩) := hZ.out.k.cell 7
              have e8 : _ = some (Value.string ⟨#[]⟩) := hZ.out.k.cell 8
              have e9 : _ = some (Value.string ⟨#[]⟩) := hZ.out.k.cell 9
              have e10 : _ = some (Value.string ⟨#[]⟩) := hZ.out.k.cell 10
              have e11 : _ = some (Value.string ⟨#[]⟩) := hZ.out.k.cell 11
              (try simp only [Exit.inBlock, Exit.then])
              refine bodyPost_ret (v := .tuple #[.agg #[(Value.string ⟨#[]⟩), (Value.string ⟨#[]⟩), (Value.string ⟨#[]⟩), (Value.string ⟨#[]⟩), (Value.string ⟨#[]⟩), (Value.string ⟨#[]⟩), (Value.string ⟨#[]⟩), (Value.string ⟨#[]⟩), (Value.string ⟨#[]⟩), (Value.string ⟨#[]⟩), (Value.string ⟨#[]⟩), (Value.string ⟨#[]⟩)], .int .i64 F]) (by simp [results, Tryz.results12, go_sem, e0, e1, e2, e3, e4, e5, e6, e7, e8, e9, e10, e11]) rfl ?_
              exact ⟨rfl, hZ.out.inv.bel⟩
end Go.Proofs.YtdlnhmcgnpjooaaGreatDoor
