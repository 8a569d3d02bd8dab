/- The program's reading of ratios: the walks of fractionOf. The program's exact numbers: the walks of reduced, Plus, Minus and Compare. The program's exact numbers: the walks of Plus, Minus and Compare. The program's reading of ratios: the walks of CheckRatio, FracOf and Short. Conditions: none beyond what the claim form gives. -/
import Derived.Test.YtnlhalnjbkpdnaaGreatDoorPC
import Derived.Test.YtnlhalnjbkpdnaaGreatDoorLB
import Derived.Deep.RegionHeld3
import Derived.Deep.DeepCutAuto
import Derived.Test.YtnlhalnjbkpdnaaGreatDoorSh3
namespace Go.Proofs.YtnlhalnjbkpdnaaGreatDoor
open Go.RowKit
set_option linter.unusedVariables false
set_option linter.unusedSimpArgs false
theorem cutP {n B : ByteArray} {ng : Bool} (hB : Hid (bodyB n = B)) (hg : Hid (negB n = ng)) (w : World) :
    Calls Tryz.prog 258 #[.string n, .string ⟨#[45]⟩] w (fun e w' => e = .returned (.tuple #[.string B, .bool ng]) ∧ w = w') := by
  refine (Tryz.strings_CutPrefix n ⟨#[45]⟩ w).mono ?_
  rintro e w' ⟨rfl, rfl⟩
  refine ⟨?_, rfl⟩
  rw [← hB.out, ← hg.out]; rfl
def FfB (f : Int) (w : World) (e : Ending) (w' : World) : Prop := e = .returned (.tuple #[.agg #[.bool false, .slice none 0 0, .slice none 0 0], .int .i64 f]) ∧ Below w.heap.size w w'
def FfG (neg : Bool) (n d : Nat) (φ : Phi) (w : World) (e : Ending) (w' : World) : Prop :=
  ∃ a1 c1 a2 c2 φ', e = .returned (.tuple #[.agg #[.bool neg, .slice a1 (limbs n).length c1, .slice a2 (limbs d).length c2], .int .i64 0]) ∧ Inv w.heap.size w φ φ' w' ∧ SlV φ' a1 c1 (limbs n) ∧ SlV φ' a2 c2 (limbs d)
/-- A frame with some slots filled. -/
def updA (a : Act) (l : List (Nat × Value)) : Act := { a with tmps := l.foldl (fun t p => t.setIfInBounds p.1 p.2) a.tmps }
/-- A region whose ways end in one state, but for what an index tells. -/
theorem wp_region_cutV {P : Program} {id : Nat} {ops : Array Oper} {b : Bool} {Q : Exit → Act → World → Prop} {a : Act} {w : World} {ι : Type} (u : ι → List (Nat × Value)) (S : ι → World → Prop) (h1 : ∀ K : Act → World → Prop, Hid (∀ i w', S i w' → K (updA a (u i)) w') → (Code.region id ops b).wp P (OnlyN K) a w) (h2 : ∀ i w, S i w → Q .normal (updA a (u i)) w) : (Code.region id ops b).wp P Q a w :=
  Code.wp_mono (fun e a w h => by
    cases e <;> first | exact h.elim | (obtain ⟨x, rfl, hs⟩ := (h : ∃ x, _ = updA _ (u x) ∧ S x _); exact h2 x _ hs)) (h1 (fun a' w' => ∃ i, a' = updA a (u i) ∧ S i w') (Lib.hid (fun i w' hs => ⟨i, rfl, hs⟩)))
/-- A box, a result's cell, and perhaps a new cell. -/
structure RqS (w0 : World) (φ0 φ : Phi) (b : Nat) (cs : Array Value) (T : TypeId) (g : Nat) (ds : Array Value) (E : TypeId) (o : Option Nat) (W : World) : Prop where
  f : Fr2 w0 φ0 φ b cs T g ds E W
  o : ∀ x, o = some x → RsSt w0 φ0 φ x #[.bool false, .slice none 0 0, .slice none 0 0] 203 W ∧ x ≠ b ∧ x ≠ g
theorem Fr2.call {w0 W w' : World} {φ0 φ φ' : Phi} {b g : Nat} {cs ds : Array Value} {T E : TypeId} (h : Fr2 w0 φ0 φ b cs T g ds E W) (hi : Inv W.heap.size W φ φ' w') : Fr2 w0 φ0 φ' b cs T g ds E w' := ⟨h.x.call hi, h.r.call hi⟩
section
variable {w0 W w' : World} {φ0 φ φ' : Phi} {b g x : Nat} {cs ds : Array Value} {T E : TypeId} {o : Option Nat}
theorem RqS.callB (h : RqS w0 φ0 φ b cs T g ds E o W) (hb : Below W.heap.size W w') : RqS w0 φ0 φ b cs T g ds E o w' := ⟨h.f.callB hb, fun x hx => ⟨(h.o x hx).1.callB hb, (h.o x hx).2⟩⟩
theorem RqS.call (h : RqS w0 φ0 φ b cs T g ds E o W) (hi : Inv W.heap.size W φ φ' w') : RqS w0 φ0 φ' b cs T g ds E o w' := ⟨h.f.call hi, fun x hx => ⟨(h.o x hx).1.call hi, (h.o x hx).2⟩⟩
theorem RqS.al (h : Hid (RqS w0 φ0 φ b cs T g ds E none W)) : Hid (RqS w0 φ0 φ b cs T g ds E (some W.heap.size) (W.alloc (.cells #[.bool false, .slice none 0 0, .slice none 0 0] 203))) := by
  refine Lib.hid ⟨h.out.f.callB ((Below.refl _ _).alloc (Nat.le_refl _) _), fun x hx => ?_⟩
  cases hx
  exact ⟨RsSt.start h.out.f.x.inv _ _, by have := h.out.f.x.k.lt; omega, by have := h.out.f.r.k.lt; omega⟩
theorem RqS.alD (h : Hid (RqS w0 φ0 φ b cs T g ds E none W)) : Hid (RqS w0 φ0 φ b cs T g ds E (some W.heap.size) (W.alloc (.cells #[.bool false, .slice none 0 0, .slice none 0 0] 203)).drew) := Lib.hid ((RqS.al h).out.callB (bdrewN (Below.refl _ _) 1))
theorem RqS.facts (h : Hid (RqS w0 φ0 φ b cs T g ds E (some x) W)) : W.cell? ⟨x, 0, none⟩ = some (.bool false) ∧ W.cell? ⟨x, 1, none⟩ = some (.slice none 0 0) ∧ W.cell? ⟨x, 2, none⟩ = some (.slice none 0 0) ∧ W.frozen? ⟨x, 0, none⟩ = false ∧ W.frozen? ⟨x, 1, none⟩ = false ∧ W.frozen? ⟨x, 2, none⟩ = false ∧ x ≠ b :=
  have k := (h.out.o x rfl).1.k
  ⟨k.cell 0, k.cell 1, k.cell 2, k.frz 0, k.frz 1, k.frz 2, (h.out.o x rfl).2.1⟩
/-- The new cell is filled. -/
theorem RqS.put {u v z : Value} (h : Hid (RqS w0 φ0 φ b cs T g ds E (some x) W)) : Fr2 w0 φ0 φ b cs T g ds E (((W.setCell ⟨x, 0, none⟩ u).setCell ⟨x, 1, none⟩ v).setCell ⟨x, 2, none⟩ z) ∧ RsSt w0 φ0 φ x #[u, v, z] 203 (((W.setCell ⟨x, 0, none⟩ u).setCell ⟨x, 1, none⟩ v).setCell ⟨x, 2, none⟩ z) ∧ x ≠ b ∧ x ≠ g := by
  obtain ⟨k, n1, n2⟩ := h.out.o x rfl
  have k1 := k.set 0 u
  have k2 := k1.set 1 v
  have k3 := k2.set 2 z
  exact ⟨⟨((h.out.f.x.oth k n1 0 _).oth k1 n1 1 _).oth k2 n1 2 _, ((h.out.f.r.oth k n2 0 _).oth k1 n2 1 _).oth k2 n2 2 _⟩, k3, n1, n2⟩
/-- The same, where the cell is made last. -/
theorem RqS.putNew {u v z : Value} (h : Hid (RqS w0 φ0 φ b cs T g ds E none W)) : Fr2 w0 φ0 φ b cs T g ds E (W.alloc (.cells #[u, v, z] 203)) ∧ RsSt w0 φ0 φ W.heap.size #[u, v, z] 203 (W.alloc (.cells #[u, v, z] 203)) ∧ W.heap.size ≠ b ∧ W.heap.size ≠ g :=
  ⟨h.out.f.callB ((Below.refl _ _).alloc (Nat.le_refl _) _), RsSt.start h.out.f.x.inv _ _, by have := h.out.f.x.k.lt; omega, by have := h.out.f.r.k.lt; omega⟩
theorem ofD_S {s : ByteArray} (hs : s.size ≤ 2000000000) (hd : Hid (AllD s)) {v k : Nat} (hv : Hid (dV s.data.toList = v)) (hk : Hid ((limbs v).length = k)) (h : Hid (RqS w0 φ0 φ b cs T g ds E o W)) :
    Calls Tryz.prog 260 #[.string s] W (fun e w' => ∃ a c φ', e = .returned (.slice a k c) ∧ Hid (φ.le φ') ∧ Hid (SlV φ' a c (limbs v)) ∧ Hid (RqS w0 φ0 φ' b cs T g ds E o w')) := by
  refine (ofDigits_any hs hd hv h.out.f.x.inv.fz).mono ?_
  rintro e w' ⟨a, c, φ', rfl, hi, hs'⟩
  exact ⟨a, c, φ', by rw [hk.out], Lib.hid hi.le, Lib.hid hs', Lib.hid (h.out.call hi)⟩
theorem keepAP {w : World} {a : Addr} {v : Value} {o : Obj} (h : w.cell? a = some v) : (w.alloc o).cell? a = some v := by
  rw [World.cell?_alloc_lt]
  · exact h
  · exact block_lt_of_cell h
end
def FfR (G : Nat) (neg : Bool) (n d : Nat) (φ : Phi) (w : World) (e : Ending) (w' : World) : Prop := (G = 1 → FfG neg n d φ w e w') ∧ (G ≠ 1 → FfB 3 w e w')
set_option maxRecDepth 100000 in
set_option maxHeartbeats 2000000 in
theorem fracOf_large {n d : ByteArray} (hs1 : (bodyB n).size ≤ 9223372036854775807) (hs2 : d.size ≤ 9223372036854775807) (h : 2000 < (bodyB n).size ∨ 2000 < d.size) {f : Int} (hf : Hid (f = 2)) {w : World} {φ : Phi} (hφ : Fz φ w) :
    Calls Tryz.prog 221 #[.agg #[.string n, .string d]] w (FfB f w) := by
  have hBX0 := RsSt.start (Inv.start hφ) #[.string n, .string d] 33
  have hRS0 := RsSt.start hBX0.inv #[.bool false, .slice none 0 0, .slice none 0 0] 203
  have hBX1 := (hBX0.callB ((Below.refl _ _).alloc (Nat.le_refl _) (.cells #[.bool false, .slice none 0 0, .slice none 0 0] 203)))
  rw [alloc_sz] at hRS0
  have hF0 : Hid (Fr2 w φ φ w.heap.size #[.string n, .string d] 33 (w.heap.size + 1) #[.bool false, .slice none 0 0, .slice none 0 0] 203 _) := Lib.hid ⟨hBX1, hRS0⟩
  clear hBX0 hRS0 hBX1
  obtain ⟨bb, hbb⟩ : ∃ b, Hid (w.heap.size = b) := ⟨_, Lib.hid rfl⟩
  rw [hbb.out] at hF0
  obtain ⟨B, hB⟩ : ∃ B, Hid (bodyB n = B) := ⟨_, Lib.hid rfl⟩
  obtain ⟨ng, hg⟩ : ∃ b, Hid (negB n = b) := ⟨_, Lib.hid rfl⟩
  rw [hB.out] at h hs1
  obtain ⟨b1, hb1⟩ : ∃ b, Hid (numB B = b) := ⟨_, Lib.hid rfl⟩
  obtain ⟨b2, hb2⟩ : ∃ b, Hid (numB d = b) := ⟨_, Lib.hid rfl⟩
  have x0 : _ = some (Value.string n) := hF0.out.x.k.cell 0
  have x1 : _ = some (Value.string d) := hF0.out.x.k.cell 1
  have y0 : _ = some (Value.bool false) := hF0.out.r.k.cell 0
  have y1 : _ = some (Value.slice none 0 0) := hF0.out.r.k.cell 1
  have y2 : _ = some (Value.slice none 0 0) := hF0.out.r.k.cell 2
  have y3 := hF0.out.r.k.frz 0
  have y4 := hF0.out.r.k.frz 1
  have y5 := hF0.out.r.k.frz 2
  clear hφ
  by_cases g1 : 2000 < B.size
  · have g1i : (2000 : Int) < (B.size : Int) := by omega
    clear h g1
    go_enter Tryz.func221, Tryz.ntmps221
    go_upto_region 1 with fail
    rw [hbb.out]
    generalize (w.alloc (Obj.cells #[Value.string n, Value.string d] 33)).alloc (Obj.cells #[Value.bool false, Value.slice none 0 0, Value.slice none 0 0] 203) = wx at *
    go_wp2_with (first
      | (go_at_call 258; (with_reducible refine (cutP hB hg _).mono ?_); rintro e w' ⟨rfl, rfl⟩)
      | (go_at_call 259; (with_reducible refine (isDigits_any hs1 hb1 _).mono ?_); rintro e w' ⟨rfl, rfl⟩)
      | (go_at_call 259; (with_reducible refine (isDigits_any hs2 hb2 _).mono ?_); rintro e w' ⟨rfl, rfl⟩))
    have hZ := Lib.hid (((hF0.out.r.set 0 (.bool false)).set 1 (.slice none 0 0)).set 2 (.slice none 0 0))
    have e0 : _ = some (Value.bool false) := hZ.out.k.cell 0
    have e1 : _ = some (Value.slice none 0 0) := hZ.out.k.cell 1
    have e2 : _ = some (Value.slice none 0 0) := hZ.out.k.cell 2
    (try simp only [Exit.inBlock, Exit.then])
    refine bodyPost_ret (v := .tuple #[.agg #[.bool false, .slice none 0 0, .slice none 0 0], .int .i64 2]) (by simp [results, Tryz.results221, go_sem, e0, e1, e2]) rfl ?_
    exact ⟨by rw [hf.out], hZ.out.inv.bel⟩
  · have g1i : ¬ (2000 : Int) < (B.size : Int) := by omega
    have g2i : (2000 : Int) < (d.size : Int) := by omega
    clear h g1
    go_enter Tryz.func221, Tryz.ntmps221
    go_upto_region 1 with fail
    rw [hbb.out]
    generalize (w.alloc (Obj.cells #[Value.string n, Value.string d] 33)).alloc (Obj.cells #[Value.bool false, Value.slice none 0 0, Value.slice none 0 0] 203) = wx at *
    go_wp2_with (first
      | (go_at_call 258; (with_reducible refine (cutP hB hg _).mono ?_); rintro e w' ⟨rfl, rfl⟩)
      | (go_at_call 259; (with_reducible refine (isDigits_any hs1 hb1 _).mono ?_); rintro e w' ⟨rfl, rfl⟩)
      | (go_at_call 259; (with_reducible refine (isDigits_any hs2 hb2 _).mono ?_); rintro e w' ⟨rfl, rfl⟩))
    have hZ := Lib.hid (((hF0.out.r.set 0 (.bool false)).set 1 (.slice none 0 0)).set 2 (.slice none 0 0))
    have e0 : _ = some (Value.bool false) := hZ.out.k.cell 0
    have e1 : _ = some (Value.slice none 0 0) := hZ.out.k.cell 1
    have e2 : _ = some (Value.slice none 0 0) := hZ.out.k.cell 2
    (try simp only [Exit.inBlock, Exit.then])
    refine bodyPost_ret (v := .tuple #[.agg #[.bool false, .slice none 0 0, .slice none 0 0], .int .i64 2]) (by simp [results, Tryz.results221, go_sem, e0, e1, e2]) rfl ?_
    exact ⟨by rw [hf.out], hZ.out.inv.bel⟩
set_option maxRecDepth 100000 in
set_option maxHeartbeats 2000000 in
theorem fracOf_form {n d : ByteArray} (hs0 : ¬ (2000 < (bodyB n).size ∨ 2000 < d.size)) (h : ¬ forP n d) {f : Int} (hf : Hid (f = 3)) {w : World} {φ : Phi} (hφ : Fz φ w) :
    Calls Tryz.prog 221 #[.agg #[.string n, .string d]] w (FfB f w) := by
  have hBX0 := RsSt.start (Inv.start hφ) #[.string n, .string d] 33
  have hRS0 := RsSt.start hBX0.inv #[.bool false, .slice none 0 0, .slice none 0 0] 203
  have hBX1 := (hBX0.callB ((Below.refl _ _).alloc (Nat.le_refl _) (.cells #[.bool false, .slice none 0 0, .slice none 0 0] 203)))
  rw [alloc_sz] at hRS0
  have hF0 : Hid (Fr2 w φ φ w.heap.size #[.string n, .string d] 33 (w.heap.size + 1) #[.bool false, .slice none 0 0, .slice none 0 0] 203 _) := Lib.hid ⟨hBX1, hRS0⟩
  clear hBX0 hRS0 hBX1
  obtain ⟨bb, hbb⟩ : ∃ b, Hid (w.heap.size = b) := ⟨_, Lib.hid rfl⟩
  rw [hbb.out] at hF0
  obtain ⟨B, hB⟩ : ∃ B, Hid (bodyB n = B) := ⟨_, Lib.hid rfl⟩
  obtain ⟨ng, hg⟩ : ∃ b, Hid (negB n = b) := ⟨_, Lib.hid rfl⟩
  unfold forP at h
  rw [hB.out, hg.out] at h
  rw [hB.out] at hs0
  have g1i : ¬ (2000 : Int) < (B.size : Int) := by omega
  have g2i : ¬ (2000 : Int) < (d.size : Int) := by omega
  have hs1 : B.size ≤ 9223372036854775807 := by omega
  have hs2 : d.size ≤ 9223372036854775807 := by omega
  obtain ⟨b1, hb1⟩ : ∃ b, Hid (numB B = b) := ⟨_, Lib.hid rfl⟩
  obtain ⟨b2, hb2⟩ : ∃ b, Hid (numB d = b) := ⟨_, Lib.hid rfl⟩
  have x0 : _ = some (Value.string n) := hF0.out.x.k.cell 0
  have x1 : _ = some (Value.string d) := hF0.out.x.k.cell 1
  have y0 : _ = some (Value.bool false) := hF0.out.r.k.cell 0
  have y1 : _ = some (Value.slice none 0 0) := hF0.out.r.k.cell 1
  have y2 : _ = some (Value.slice none 0 0) := hF0.out.r.k.cell 2
  have y3 := hF0.out.r.k.frz 0
  have y4 := hF0.out.r.k.frz 1
  have y5 := hF0.out.r.k.frz 2
  clear hφ hs0
  cases b1 with
  | false =>
    clear h
    go_enter Tryz.func221, Tryz.ntmps221
    go_upto_region 1 with fail
    rw [hbb.out]
    generalize (w.alloc (Obj.cells #[Value.string n, Value.string d] 33)).alloc (Obj.cells #[Value.bool false, Value.slice none 0 0, Value.slice none 0 0] 203) = wx at *
    go_wp2_with (first
      | (go_at_call 258; (with_reducible refine (cutP hB hg _).mono ?_); rintro e w' ⟨rfl, rfl⟩)
      | (go_at_call 259; (with_reducible refine (isDigits_any hs1 hb1 _).mono ?_); rintro e w' ⟨rfl, rfl⟩)
      | (go_at_call 259; (with_reducible refine (isDigits_any hs2 hb2 _).mono ?_); rintro e w' ⟨rfl, rfl⟩))
    have hZ := Lib.hid (((hF0.out.r.set 0 (.bool false)).set 1 (.slice none 0 0)).set 2 (.slice none 0 0))
    have e0 : _ = some (Value.bool false) := hZ.out.k.cell 0
    have e1 : _ = some (Value.slice none 0 0) := hZ.out.k.cell 1
    have e2 : _ = some (Value.slice none 0 0) := hZ.out.k.cell 2
    (try simp only [Exit.inBlock, Exit.then])
    refine bodyPost_ret (v := .tuple #[.agg #[.bool false, .slice none 0 0, .slice none 0 0], .int .i64 3]) (by simp [results, Tryz.results221, go_sem, e0, e1, e2]) rfl ?_
    exact ⟨by rw [hf.out], hZ.out.inv.bel⟩
  | true =>
  cases b2 with
  | false =>
    clear h
    go_enter Tryz.func221, Tryz.ntmps221
    go_upto_region 1 with fail
    rw [hbb.out]
    generalize (w.alloc (Obj.cells #[Value.string n, Value.string d] 33)).alloc (Obj.cells #[Value.bool false, Value.slice none 0 0, Value.slice none 0 0] 203) = wx at *
    go_wp2_with (first
      | (go_at_call 258; (with_reducible refine (cutP hB hg _).mono ?_); rintro e w' ⟨rfl, rfl⟩)
      | (go_at_call 259; (with_reducible refine (isDigits_any hs1 hb1 _).mono ?_); rintro e w' ⟨rfl, rfl⟩)
      | (go_at_call 259; (with_reducible refine (isDigits_any hs2 hb2 _).mono ?_); rintro e w' ⟨rfl, rfl⟩))
    have hZ := Lib.hid (((hF0.out.r.set 0 (.bool false)).set 1 (.slice none 0 0)).set 2 (.slice none 0 0))
    have e0 : _ = some (Value.bool false) := hZ.out.k.cell 0
    have e1 : _ = some (Value.slice none 0 0) := hZ.out.k.cell 1
    have e2 : _ = some (Value.slice none 0 0) := hZ.out.k.cell 2
    (try simp only [Exit.inBlock, Exit.then])
    refine bodyPost_ret (v := .tuple #[.agg #[.bool false, .slice none 0 0, .slice none 0 0], .int .i64 3]) (by simp [results, Tryz.results221, go_sem, e0, e1, e2]) rfl ?_
    exact ⟨by rw [hf.out], hZ.out.inv.bel⟩
  | true =>
  obtain ⟨z1, hz1⟩ : ∃ z, (d.toList == [48]) = z := ⟨_, rfl⟩
  cases z1 with
  | true =>
    clear h
    go_enter Tryz.func221, Tryz.ntmps221
    go_upto_region 1 with fail
    rw [hbb.out]
    generalize (w.alloc (Obj.cells #[Value.string n, Value.string d] 33)).alloc (Obj.cells #[Value.bool false, Value.slice none 0 0, Value.slice none 0 0] 203) = wx at *
    go_wp2_with (first
      | (go_at_call 258; (with_reducible refine (cutP hB hg _).mono ?_); rintro e w' ⟨rfl, rfl⟩)
      | (go_at_call 259; (with_reducible refine (isDigits_any hs1 hb1 _).mono ?_); rintro e w' ⟨rfl, rfl⟩)
      | (go_at_call 259; (with_reducible refine (isDigits_any hs2 hb2 _).mono ?_); rintro e w' ⟨rfl, rfl⟩))
    have hZ := Lib.hid (((hF0.out.r.set 0 (.bool false)).set 1 (.slice none 0 0)).set 2 (.slice none 0 0))
    have e0 : _ = some (Value.bool false) := hZ.out.k.cell 0
    have e1 : _ = some (Value.slice none 0 0) := hZ.out.k.cell 1
    have e2 : _ = some (Value.slice none 0 0) := hZ.out.k.cell 2
    (try simp only [Exit.inBlock, Exit.then])
    refine bodyPost_ret (v := .tuple #[.agg #[.bool false, .slice none 0 0, .slice none 0 0], .int .i64 3]) (by simp [results, Tryz.results221, go_sem, e0, e1, e2]) rfl ?_
    exact ⟨by rw [hf.out], hZ.out.inv.bel⟩
  | false =>
  have hd48 : d.data.toList ≠ [48] := by rw [ByteArray.toList_eq] at hz1; exact beq_eq_false_iff_ne.1 hz1
  have h2 : ng = true ∧ B.data.toList = [48] := by
    refine Classical.byContradiction fun e => h ⟨numB_P hb1.out, numB_P hb2.out, hd48, e⟩
  obtain ⟨rfl, h3⟩ := h2
  have hz2 : (B.toList == [48]) = true := by rw [ByteArray.toList_eq, h3]; rfl
  clear h h3 hd48
  go_enter Tryz.func221, Tryz.ntmps221
  go_upto_region 1 with fail
  rw [hbb.out]
  generalize (w.alloc (Obj.cells #[Value.string n, Value.string d] 33)).alloc (Obj.cells #[Value.bool false, Value.slice none 0 0, Value.slice none 0 0] 203) = wx at *
  go_wp2_with (first
    | (go_at_call 258; (with_reducible refine (cutP hB hg _).mono ?_); rintro e w' ⟨rfl, rfl⟩)
    | (go_at_call 259; (with_reducible refine (isDigits_any hs1 hb1 _).mono ?_); rintro e w' ⟨rfl, rfl⟩)
    | (go_at_call 259; (with_reducible refine (isDigits_any hs2 hb2 _).mono ?_); rintro e w' ⟨rfl, rfl⟩))
  have hZ := Lib.hid (((hF0.out.r.set 0 (.bool false)).set 1 (.slice none 0 0)).set 2 (.slice none 0 0))
  have e0 : _ = some (Value.bool false) := hZ.out.k.cell 0
  have e1 : _ = some (Value.slice none 0 0) := hZ.out.k.cell 1
  have e2 : _ = some (Value.slice none 0 0) := hZ.out.k.cell 2
  (try simp only [Exit.inBlock, Exit.then])
  refine bodyPost_ret (v := .tuple #[.agg #[.bool false, .slice none 0 0, .slice none 0 0], .int .i64 3]) (by simp [results, Tryz.results221, go_sem, e0, e1, e2]) rfl ?_
  exact ⟨by rw [hf.out], hZ.out.inv.bel⟩
set_option maxRecDepth 100000 in
set_option maxHeartbeats 4000000 in
theorem fracOf_ok {M : Nat} (hD : Hid (DivOk M)) {n d : ByteArray} (hm1 : dV (bodyB n).data.toList ≤ M) (hm2 : dV d.data.toList ≤ M) (hs0 : ¬ (2000 < (bodyB n).size ∨ 2000 < d.size)) (h : forP n d) {w : World} {φ : Phi} (hφ : Fz φ w) :
    Calls Tryz.prog 221 #[.agg #[.string n, .string d]] w (FfR (Nat.gcd (dV (bodyB n).data.toList) (dV d.data.toList)) (negB n) (dV (bodyB n).data.toList) (dV d.data.toList) φ w) := by
  have hBX0 := RsSt.start (Inv.start hφ) #[.string n, .string d] 33
  have hRS0 := RsSt.start hBX0.inv #[.bool false, .slice none 0 0, .slice none 0 0] 203
  have hBX1 := (hBX0.callB ((Below.refl _ _).alloc (Nat.le_refl _) (.cells #[.bool false, .slice none 0 0, .slice none 0 0] 203)))
  rw [alloc_sz] at hRS0
  have hF0 : Hid (Fr2 w φ φ w.heap.size #[.string n, .string d] 33 (w.heap.size + 1) #[.bool false, .slice none 0 0, .slice none 0 0] 203 _) := Lib.hid ⟨hBX1, hRS0⟩
  clear hBX0 hRS0 hBX1
  obtain ⟨bb, hbb⟩ : ∃ b, Hid (w.heap.size = b) := ⟨_, Lib.hid rfl⟩
  rw [hbb.out] at hF0
  obtain ⟨B, hB⟩ : ∃ B, Hid (bodyB n = B) := ⟨_, Lib.hid rfl⟩
  obtain ⟨ng, hg⟩ : ∃ b, Hid (negB n = b) := ⟨_, Lib.hid rfl⟩
  unfold forP at h
  rw [hB.out, hg.out] at h
  rw [hB.out] at hs0 hm1
  rw [hB.out, hg.out]
  have g1i : ¬ (2000 : Int) < (B.size : Int) := by omega
  have g2i : ¬ (2000 : Int) < (d.size : Int) := by omega
  have hs1 : B.size ≤ 9223372036854775807 := by omega
  have hs2 : d.size ≤ 9223372036854775807 := by omega
  have hb1 := Lib.hid (numB_true h.1)
  have hb2 := Lib.hid (numB_true h.2.1)
  have hD1 := Lib.hid h.1.2.1
  have hD2 := Lib.hid h.2.1.2.1
  have hz1 : (d.toList == [48]) = false := by rw [ByteArray.toList_eq]; exact beq_eq_false_iff_ne.2 h.2.2.1
  have x0 : _ = some (Value.string n) := hF0.out.x.k.cell 0
  have x1 : _ = some (Value.string d) := hF0.out.x.k.cell 1
  have h4 := h.2.2.2
  have hsz1 : B.size ≤ 2000000000 := by omega
  have hsz2 : d.size ≤ 2000000000 := by omega
  obtain ⟨v1, hv1⟩ : ∃ v, Hid (dV B.data.toList = v) := ⟨_, Lib.hid rfl⟩
  obtain ⟨v2, hv2⟩ : ∃ v, Hid (dV d.data.toList = v) := ⟨_, Lib.hid rfl⟩
  rw [hv1.out] at hm1
  rw [hv2.out] at hm2
  obtain ⟨q1, hq1⟩ : ∃ k, Hid ((limbs v1).length = k) := ⟨_, Lib.hid rfl⟩
  obtain ⟨q2, hq2⟩ : ∃ k, Hid ((limbs v2).length = k) := ⟨_, Lib.hid rfl⟩
  clear hφ hs0 h
  go_enter Tryz.func221, Tryz.ntmps221
  go_upto_region 1 with fail
  rw [hbb.out]
  generalize (w.alloc (Obj.cells #[Value.string n, Value.string d] 33)).alloc (Obj.cells #[Value.bool false, Value.slice none 0 0, Value.slice none 0 0] 203) = wx at *
  obtain ⟨z2, hz2⟩ : ∃ z, (B.toList == [48]) = z := ⟨_, rfl⟩
  have hz3 : ng = true → z2 = false := fun e => by
    cases z2
    · rfl
    · exact absurd ⟨e, by rw [ByteArray.toList_eq] at hz2; exact eq_of_beq hz2⟩ h4
  clear h4
  go_upto_region 4 with (go_at_call 258; (with_reducible refine (cutP hB hg _).mono ?_); rintro e w' ⟨rfl, rfl⟩)
  go_cut [44] (fun s44 wc => s44 = .bool false ∧ wx = wc)
  case first =>
    cases ng with
    | false =>
      clear hz3
      go_wp2_with (first
        | (go_at_call 259; (with_reducible refine (isDigits_any hs1 hb1 _).mono ?_); rintro e w' ⟨rfl, rfl⟩)
        | (go_at_call 259; (with_reducible refine (isDigits_any hs2 hb2 _).mono ?_); rintro e w' ⟨rfl, rfl⟩))
      go_meet
      case rel => exact ⟨rfl, rfl⟩
    | true =>
      obtain rfl := hz3 rfl
      clear hz3
      go_wp2_with (first
        | (go_at_call 259; (with_reducible refine (isDigits_any hs1 hb1 _).mono ?_); rintro e w' ⟨rfl, rfl⟩)
        | (go_at_call 259; (with_reducible refine (isDigits_any hs2 hb2 _).mono ?_); rintro e w' ⟨rfl, rfl⟩))
      go_meet
      case rel => exact ⟨rfl, rfl⟩
  case rest =>
  obtain ⟨rfl, rfl⟩ := hcut
  clear hz2 hz3
  go_upto_region 6 with fail
  have hF0' : Hid (RqS w φ φ bb #[.string n, .string d] 33 (bb + 1) #[.bool false, .slice none 0 0, .slice none 0 0] 203 none wx) := Lib.hid ⟨hF0.out, fun x hx => by cases hx⟩
  have hFd : Hid (RqS w φ φ bb #[.string n, .string d] 33 (bb + 1) #[.bool false, .slice none 0 0, .slice none 0 0] 203 none wx.drew) := Lib.hid (hF0'.out.callB (bdrewN (Below.refl _ wx) 1))
  clear hF0
  have hF0 := hF0'
  clear hF0'
  have x1d : wx.drew.cell? ⟨bb, 1, none⟩ = some (.string d) := x1
  apply wp_region_cutV (fun (i : Nat × Option Addr × Nat × Option Addr × Nat) => [(46, .bool ng), (47, .string B), (48, .slice i.2.1 q1 i.2.2.1), (49, .pointer (some ⟨bb, 1, none⟩)), (50, .string d), (51, .slice i.2.2.2.1 q2 i.2.2.2.2), (52, .agg #[.bool ng, .slice i.2.1 q1 i.2.2.1, .slice i.2.2.2.1 q2 i.2.2.2.2]), (6, .pointer (some ⟨i.1, 0, none⟩))])
    (fun i W => Hid (∃ φ', φ.le φ' ∧ SlV φ' i.2.1 i.2.2.1 (limbs v1) ∧ SlV φ' i.2.2.2.1 i.2.2.2.2 (limbs v2) ∧ Fr2 w φ φ' bb #[.string n, .string d] 33 (bb + 1) #[.bool false, .slice none 0 0, .slice none 0 0] 203 W ∧ RsSt w φ φ' i.1 #[.bool ng, .slice i.2.1 q1 i.2.2.1, .slice i.2.2.2.1 q2 i.2.2.2.2] 203 W ∧ i.1 ≠ bb ∧ i.1 ≠ bb + 1))
  case h1 =>
    intro KK hKK
    go_region_held3 (fun w' => w'.cell? ⟨bb, 1, none⟩ = some (.string d)) (first | with_reducible exact x1d | with_reducible assumption | exact keepAP (by with_reducible assumption) | exact keep3 (by with_reducible assumption) (show _ ≠ bb by with_reducible assumption)) (first
      | ((with_reducible refine (ofD_S hsz1 hD1 hv1 hq1 (by first | with_reducible exact hFd | with_reducible assumption | with_reducible exact RqS.al (by with_reducible assumption) | exact RqS.alD hF0)).mono ?_); rintro e w' ⟨a5, c5, φ5, rfl, hl5, hs5, hX⟩; have z1 : w'.cell? ⟨bb, 1, none⟩ = some (.string d) := hX.out.f.x.k.cell 1; (try (with_reducible have vv := RqS.facts hX); obtain ⟨v0, v1, v2, v3, v4, v5, v6⟩ := vv))
      | ((with_reducible refine (ofD_S hsz2 hD2 hv2 hq2 (by first | with_reducible assumption | with_reducible exact RqS.al (by with_reducible assumption))).mono ?_); rintro e w' ⟨a6, c6, φ6, rfl, hl6, hs6, hX2⟩; have z2 : w'.cell? ⟨bb, 1, none⟩ = some (.string d) := hX2.out.f.x.k.cell 1; (try (with_reducible have vv := RqS.facts hX2); obtain ⟨u0, u1, u2, u3, u4, u5, u6⟩ := vv)))
    all_goals
      refine onlyN_mk ?_
      have hk := fun x W s => hKK.out (x, a5, c5, a6, c6) W (Lib.hid ⟨φ6, hl5.out.trans hl6.out, hs5.out.mono hl6.out, hs6.out, s⟩)
      simp only [updA, List.foldl_cons, List.foldl_nil, List.setIfInBounds_toArray, List.set_cons_succ, List.set_cons_zero] at hk
      first
        | exact hk _ _ (RqS.put (by with_reducible assumption))
        | exact hk _ _ (RqS.putNew (by with_reducible assumption))
  case h2 =>
    rintro ⟨gx, a5, c5, a6, c6⟩ W9 hF9
    simp only [updA, List.foldl_cons, List.foldl_nil, List.setIfInBounds_toArray, List.set_cons_succ, List.set_cons_zero]
    obtain ⟨φ6, hle, s5, s6, hFF, hXX, ne1, ne2⟩ := hF9.out
    have HF := Lib.hid hFF
    have HX := Lib.hid hXX
    have S5 := Lib.hid s5
    have S6 := Lib.hid s6
    have HN := Lib.hid ne2
    have p1 : W9.cell? ⟨gx, 1, none⟩ = some (.slice a5 q1 c5) := hXX.k.cell 1
    have p2 : W9.cell? ⟨gx, 2, none⟩ = some (.slice a6 q2 c6) := hXX.k.cell 2
    clear hF9 hFF hXX s5 s6 ne1 ne2 hF0 hFd x0 x1 x1d hle
    obtain ⟨G, hG⟩ : ∃ G, Hid (Nat.gcd v1 v2 = G) := ⟨_, Lib.hid rfl⟩
    obtain ⟨kG, hkG⟩ : ∃ k, Hid ((limbs G).length = k) := ⟨_, Lib.hid rfl⟩
    go_upto_region 8 with (go_at_call 261; (with_reducible refine (gcd_any hD HF.out.x.inv.fz S5.out S6.out hq1 hq2 hm1 hm2).mono ?_); rw [hG.out]; rintro e w10 ⟨a7, c7, φ7, rfl, hi7, hs7⟩; rw [hkG.out]; have F7 := Lib.hid (HF.out.call hi7); have X7 := Lib.hid (HX.out.call hi7); have S7 := Lib.hid hs7; have T5 := Lib.hid (S5.out.mono hi7.le); have T6 := Lib.hid (S6.out.mono hi7.le); clear hi7 hs7)
    clear p1 p2 HF HX S5 S6
    have y0 : w10.cell? ⟨bb + 1, 0, none⟩ = some (.bool false) := F7.out.r.k.cell 0
    have y1 : w10.cell? ⟨bb + 1, 1, none⟩ = some (.slice none 0 0) := F7.out.r.k.cell 1
    have y2 : w10.cell? ⟨bb + 1, 2, none⟩ = some (.slice none 0 0) := F7.out.r.k.cell 2
    have y3 := F7.out.r.k.frz 0
    have y4 := F7.out.r.k.frz 1
    have y5 := F7.out.r.k.frz 2
    by_cases hG1 : G = 1
    · subst hG1
      have hk1 : kG = 1 := by rw [← hkG.out, limbs_one (by decide) (by decide)]; rfl
      subst hk1
      obtain ⟨b7, o7, rfl, f7⟩ := S7.out.natD hkG (k := 0) (by omega)
      have d7 := (f7 0 (by omega) w10 F7.out.x.inv.fz).2
      rw [show (limbs 1).getD 0 0 = 1 from by rw [limbs_one (by decide) (by decide)]; rfl, Nat.add_zero] at d7
      have d7' : w10.cell? ⟨b7, o7, none⟩ = some (.int .u64 1) := d7
      have p0 : w10.cell? ⟨gx, 0, none⟩ = some (.bool ng) := X7.out.k.cell 0
      have p1 : w10.cell? ⟨gx, 1, none⟩ = some (.slice a5 q1 c5) := X7.out.k.cell 1
      have p2 : w10.cell? ⟨gx, 2, none⟩ = some (.slice a6 q2 c6) := X7.out.k.cell 2
      clear f7 d7
      go_wp2
      have hZ := Lib.hid (((F7.out.r.set 0 (.bool ng)).set 1 (.slice a5 q1 c5)).set 2 (.slice a6 q2 c6))
      have e0 : _ = some (Value.bool ng) := hZ.out.k.cell 0
      have e1 : _ = some (Value.slice a5 q1 c5) := hZ.out.k.cell 1
      have e2 : _ = some (Value.slice a6 q2 c6) := hZ.out.k.cell 2
      (try simp only [Exit.inBlock, Exit.then])
      refine bodyPost_ret (v := .tuple #[.agg #[.bool ng, .slice a5 q1 c5, .slice a6 q2 c6], .int .i64 0]) (by simp [results, Tryz.results221, go_sem, e0, e1, e2]) rfl ?_
      refine ⟨fun _ => ⟨a5, c5, a6, c6, φ7, ?_, hZ.out.inv, ?_, ?_⟩, fun h => absurd (by rw [hv1.out, hv2.out]; exact hG.out) h⟩
      · rw [hv1.out, hv2.out, hq1.out, hq2.out]
      · rw [hv1.out]; exact T5.out
      · rw [hv2.out]; exact T6.out
    · have hZ := Lib.hid (((F7.out.r.set 0 (.bool false)).set 1 (.slice none 0 0)).set 2 (.slice none 0 0))
      have hfin : Hid (FfR (Nat.gcd (dV B.data.toList) (dV d.data.toList)) ng (dV B.data.toList) (dV d.data.toList) φ w (.returned (.tuple #[.agg #[.bool false, .slice none 0 0, .slice none 0 0], .int .i64 3])) (((w10.setCell ⟨bb + 1, 0, none⟩ (.bool false)).setCell ⟨bb + 1, 1, none⟩ (.slice none 0 0)).setCell ⟨bb + 1, 2, none⟩ (.slice none 0 0))) := Lib.hid ⟨fun h => absurd (by rw [← hG.out, ← hv1.out, ← hv2.out]; exact h) hG1, fun _ => ⟨rfl, hZ.out.inv.bel⟩⟩
      have e0 : _ = some (Value.bool false) := hZ.out.k.cell 0
      have e1 : _ = some (Value.slice none 0 0) := hZ.out.k.cell 1
      have e2 : _ = some (Value.slice none 0 0) := hZ.out.k.cell 2
      by_cases hk1 : kG = 1
      · subst hk1
        have hGl : G < lb := by have := limbs_lt G; rwa [hkG.out, Nat.pow_one] at this
        have hG0 : 0 < G := by
          rcases Nat.eq_zero_or_pos G with e | e
          · rw [e, limbs_zero] at hkG; exact absurd hkG.out (by simp)
          · exact e
        obtain ⟨b7, o7, rfl, f7⟩ := S7.out.natD hkG (k := 0) (by omega)
        have d7 := (f7 0 (by omega) w10 F7.out.x.inv.fz).2
        rw [show (limbs G).getD 0 0 = G from by rw [limbs_one hG0 hGl]; rfl, Nat.add_zero] at d7
        have hGi : ((G : Int) == 1) = false := by simp; omega
        have hGj : ((G : Int) != 1) = true := by simp; omega
        clear f7 hG1 hGl hG0
        go_wp2
        (try simp only [Exit.inBlock, Exit.then])
        refine bodyPost_ret (v := .tuple #[.agg #[.bool false, .slice none 0 0, .slice none 0 0], .int .i64 3]) (by simp [results, Tryz.results221, go_sem, e0, e1, e2]) rfl hfin.out
      · have hki : ((kG : Int) == 1) = false := by simp; omega
        have hkj : ((kG : Int) != 1) = true := by simp; omega
        clear hk1 hG1
        go_wp2
        (try simp only [Exit.inBlock, Exit.then])
        refine bodyPost_ret (v := .tuple #[.agg #[.bool false, .slice none 0 0, .slice none 0 0], .int .i64 3]) (by simp [results, Tryz.results221, go_sem, e0, e1, e2]) rfl hfin.out
end Go.Proofs.YtnlhalnjbkpdnaaGreatDoor

namespace Go.Proofs.YtnlhalnjbkpdnaaGreatDoor
open Go.RowKit
set_option linter.unusedVariables false
set_option linter.unusedSimpArgs false
end Go.Proofs.YtnlhalnjbkpdnaaGreatDoor

namespace Go.Proofs.YtnlhalnjbkpdnaaGreatDoor
open Go.RowKit
set_option linter.unusedVariables false
set_option linter.unusedSimpArgs false
theorem FfX.of {φ : Phi} {neg : Bool} {n d k1 k2 : Nat} {a1 : Option Addr} {c1 : Nat} {a2 : Option Addr} {c2 : Nat} {x : Rat} {N D : Nat} (s1 : SlV φ a1 c1 (limbs n)) (s2 : SlV φ a2 c2 (limbs d)) (h1 : Hid ((limbs n).length = k1)) (h2 : Hid ((limbs d).length = k2)) (hd : 0 < d) (hn : n ≤ N) (hD : d ≤ D) (hx : rat neg n d = x) : FfX φ (.agg #[.bool neg, .slice a1 k1 c1, .slice a2 k2 c2]) x N D :=
  ⟨neg, n, d, a1, c1, a2, c2, by rw [h1.out, h2.out], s1, s2, hd, hn, hD, hx⟩
end Go.Proofs.YtnlhalnjbkpdnaaGreatDoor

namespace Go.Proofs.YtnlhalnjbkpdnaaGreatDoor
open Go.RowKit
set_option linter.unusedVariables false
set_option linter.unusedSimpArgs false
def p10 (k : Nat) : Nat := 10 ^ k
theorem p10_mono {j k : Nat} (h : j ≤ k) : 10 ^ j ≤ p10 k := Nat.pow_le_pow_right (by decide) h
/-- What fractionOf gives of any ratio. -/
def FfA (n d : ByteArray) (φ : Phi) (w : World) (e : Ending) (w' : World) : Prop :=
  ∃ v f φ', e = .returned (.tuple #[v, .int .i64 f]) ∧ f = ratF n d ∧ Inv w.heap.size w φ φ' w' ∧ (f = 0 → FfX φ' v (ratX n d) (dV (bodyB n).data.toList) (dV d.data.toList)) ∧ ∃ (a : Bool) (s1 : Option Addr) (n1 c1 : Nat) (s2 : Option Addr) (n2 c2 : Nat), v = .agg #[.bool a, .slice s1 n1 c1, .slice s2 n2 c2]
theorem bodyB_size (n : ByteArray) : (bodyB n).size ≤ n.size := by
  show (bodyB n).data.size ≤ n.data.size
  unfold bodyB Lib.trimPrefix
  split
  · simp
  · simp
theorem fracOf_any {M : Nat} (hD : Hid (DivOk M)) (hM : p10 2000 ≤ M) {n d : ByteArray} (hn : n.size ≤ 9223372036854775807) (hd : d.size ≤ 9223372036854775807) {w : World} {φ : Phi} (hφ : Fz φ w) :
    Calls Tryz.prog 221 #[.agg #[.string n, .string d]] w (FfA n d φ w) := by
  have hb := bodyB_size n
  by_cases h1 : 2000 < (bodyB n).size ∨ 2000 < d.size
  · refine (fracOf_large (by omega) hd h1 (f := ratF n d) (Lib.hid (ratF_large h1)) hφ).mono ?_
    rintro e w' ⟨rfl, hb⟩
    exact ⟨_, _, φ, rfl, rfl, (Inv.start hφ).callB hb, fun h => absurd ((ratF_large h1).symm.trans h) (by decide), _, _, _, _, _, _, _, rfl⟩
  · by_cases h2 : forP n d
    · have l1 : dV (bodyB n).data.toList ≤ M := by
        have h3 := dV_lt h2.1.2.1
        have h4 := p10_mono (show (bodyB n).data.toList.length ≤ 2000 from (by omega : (bodyB n).size ≤ 2000))
        exact Nat.le_trans (Nat.le_of_lt h3) (Nat.le_trans h4 hM)
      have l2 : dV d.data.toList ≤ M := by
        have h3 := dV_lt h2.2.1.2.1
        have h4 := p10_mono (show d.data.toList.length ≤ 2000 from (by omega : d.size ≤ 2000))
        exact Nat.le_trans (Nat.le_of_lt h3) (Nat.le_trans h4 hM)
      refine (fracOf_ok hD l1 l2 h1 h2 hφ).mono ?_
      rintro e w' ⟨hA, hB⟩
      by_cases h3 : Nat.gcd (dV (bodyB n).data.toList) (dV d.data.toList) = 1
      · obtain ⟨a1, c1, a2, c2, φ', rfl, hi, s1, s2⟩ := hA h3
        exact ⟨_, 0, φ', rfl, (ratF_zero h1 h2 h3).symm, hi, fun _ => ⟨_, _, _, a1, c1, a2, c2, rfl, s1, s2, numP_pos h2.2.1 h2.2.2.1, Nat.le_refl _, Nat.le_refl _, rfl⟩, _, _, _, _, _, _, _, rfl⟩
      · obtain ⟨rfl, hb⟩ := hB h3
        exact ⟨_, 3, φ, rfl, (ratF_gcd h1 h2 h3).symm, (Inv.start hφ).callB hb, fun h => absurd h (by decide), _, _, _, _, _, _, _, rfl⟩
    · refine (fracOf_form h1 h2 (f := ratF n d) (Lib.hid (ratF_form h1 h2)) hφ).mono ?_
      rintro e w' ⟨rfl, hb⟩
      exact ⟨_, _, φ, rfl, rfl, (Inv.start hφ).callB hb, fun h => absurd ((ratF_form h1 h2).symm.trans h) (by decide), _, _, _, _, _, _, _, rfl⟩
end Go.Proofs.YtnlhalnjbkpdnaaGreatDoor
