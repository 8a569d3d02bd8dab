/- What Report counts: the plain law, and its state. Conditions: none; plain Lean. -/
import Derived.Test.YtkfmadeeobalaaaDoorR2
namespace Go.Proofs.YtkfmadeeobalaaaDoor
open Go.RowKit
set_option linter.unusedVariables false
abbrev rpr1 : Rpr := ([], [], 0)
/-- One more at each of some numbers. -/
def bump (l : List Int) (k : Int) : List Int := l.set k.toNat (l.getD k.toNat 0 + 1)
def bumps (l ks : List Int) : List Int := ks.foldl bump l
theorem bumps_take {l ks : List Int} {j : Nat} (h : j < ks.length) : bumps l (ks.take (j + 1)) = bump (bumps l (ks.take j)) (ks.getD j 0) := by
  unfold bumps
  rw [List.take_add_one, List.getElem?_eq_getElem h, List.foldl_append, List.getD_eq_getElem?_getD, List.getElem?_eq_getElem h]
  rfl
theorem bump_len (l : List Int) (k : Int) : (bump l k).length = l.length := by unfold bump; simp
theorem bumps_len : ∀ (ks l : List Int), (bumps l ks).length = l.length
  | [], l => rfl
  | k :: ks, l => by
    show (bumps (bump l k) ks).length = _
    rw [bumps_len ks, bump_len]
/-- No counter is above a bound. -/
def CntB (B : Int) (l : List Int) : Prop := ∀ k, 0 ≤ l.getD k 0 ∧ l.getD k 0 ≤ B
theorem CntB.bump {B : Int} {l : List Int} (h : CntB B l) (k : Int) : CntB (B + 1) (bump l k) := by
  intro i
  unfold Go.Proofs.YtkfmadeeobalaaaDoor.bump
  by_cases hk : k.toNat < l.length
  · rw [getD_set_ite l _ hk]
    have h1 := h i
    have h2 := h k.toNat
    split <;> omega
  · rw [List.set_eq_of_length_le (by omega)]
    have h1 := h i
    omega
theorem CntB.bumps : ∀ (ks : List Int) {B : Int} {l : List Int}, CntB B l → CntB (B + ks.length) (bumps l ks)
  | [], B, l, h => by
    show CntB (B + 0) l
    rw [Int.add_zero]; exact h
  | k :: ks, B, l, h => by
    have h2 := CntB.bumps ks (h.bump k)
    show CntB (B + ((ks.length + 1 : Nat) : Int)) _
    have e : B + 1 + (ks.length : Int) = B + ((ks.length + 1 : Nat) : Int) := by omega
    rw [← e]
    exact h2
theorem CntB.mono {B B' : Int} {l : List Int} (h : CntB B l) (hb : B ≤ B') : CntB B' l := fun k => ⟨(h k).1, Int.le_trans (h k).2 hb⟩
theorem CntB.zero (n : Nat) : CntB 0 (List.replicate n 0) := by
  intro k
  have : (List.replicate n (0 : Int)).getD k 0 = 0 := by
    rw [List.getD_eq_getElem?_getD, List.getElem?_replicate]
    split <;> rfl
  rw [this]; omega
/-- The counts behind the first k records. -/
abbrev RpS := Int × List Int × List Int
def rpK (es : List Edt) (n m : Nat) (l : List (List Int)) (d : List Rpr) : Nat → RpS
  | 0 => (0, List.replicate m 0, List.replicate n 0)
  | k + 1 => ((rpK es n m l d k).1 + (if (d.getD k rpr1).2.1.length = 0 then 0 else 1), bumps (rpK es n m l d k).2.1 (failL es (l.getD k []) n m), bumps (rpK es n m l d k).2.2 (d.getD k rpr1).2.1)
/-- What is wrong with a repair. -/
def rpF (n : Nat) (l : List (List Int)) (d : List Rpr) (k : Nat) : Int :=
  if recF n (d.getD k rpr1).1 ≠ 0 then recF n (d.getD k rpr1).1
  else if outB (d.getD k rpr1).2.2 (-1) ((l.length : Int) - 1) = true then 1
  else if apL (l.getD k []) (d.getD k rpr1).1 n = (d.getD k rpr1).2.1 then 0 else 3
noncomputable def repoF (fs : List Fld) (es : List Edt) (l : List (List Int)) (d : List Rpr) : Int :=
  if planF fs es ≠ 0 then planF fs es else if listF fs.length l ≠ 0 then listF fs.length l
  else if d.length ≠ l.length then 3 else scan (rpF fs.length l d) d.length
noncomputable def repoR (fs : List Fld) (es : List Edt) (l : List (List Int)) (d : List Rpr) (F : Int) : RpS :=
  if F = 0 then rpK es fs.length es.length l d d.length else (0, [], [])
section
variable {es : List Edt} {n m : Nat} {l : List (List Int)} {d : List Rpr}
theorem rpK_len : ∀ k, (rpK es n m l d k).2.1.length = m ∧ (rpK es n m l d k).2.2.length = n
  | 0 => ⟨by simp [rpK], by simp [rpK]⟩
  | k + 1 => by
    have h := rpK_len k
    exact ⟨by show (bumps _ _).length = m; rw [bumps_len]; exact h.1, by show (bumps _ _).length = n; rw [bumps_len]; exact h.2⟩
theorem rpK_cnt (h60 : m ≤ 60) (h12 : n ≤ 12) : ∀ k, (∀ i, i < k → (d.getD i rpr1).2.1.length ≤ n) → 0 ≤ (rpK es n m l d k).1 ∧ (rpK es n m l d k).1 ≤ k ∧ CntB (60 * k) (rpK es n m l d k).2.1 ∧ CntB (12 * k) (rpK es n m l d k).2.2
  | 0, _ => ⟨by simp [rpK], by simp [rpK], CntB.zero _, CntB.zero _⟩
  | k + 1, hf => by
    obtain ⟨h1, h2, h3, h4⟩ := rpK_cnt h60 h12 k (fun i hi => hf i (by omega))
    have h5 := hf k (by omega)
    have h6 : (failL es (l.getD k []) n m).length ≤ m := by
      unfold failL; rw [List.length_map]; exact Nat.le_trans (List.length_filter_le _ _) (by simp)
    refine ⟨?_, ?_, (h3.bumps (failL es (l.getD k []) n m)).mono (by omega), (h4.bumps (d.getD k rpr1).2.1).mono (by omega)⟩
    · show 0 ≤ (rpK es n m l d k).1 + _
      split <;> omega
    · show (rpK es n m l d k).1 + _ ≤ ((k + 1 : Nat) : Int)
      split <;> omega
/-- Where nothing is wrong, the fields are those that differ. -/
theorem rpF_zero {k : Nat} (h : rpF n l d k = 0) : recF n (d.getD k rpr1).1 = 0 ∧ outB (d.getD k rpr1).2.2 (-1) ((l.length : Int) - 1) = false ∧ apL (l.getD k []) (d.getD k rpr1).1 n = (d.getD k rpr1).2.1 := by
  unfold rpF at h
  split at h
  · next h1 => exact absurd h h1
  · next h1 =>
    split at h
    · cases h
    · next h2 =>
      split at h
      · next h3 => exact ⟨by simpa using h1, by simpa using h2, h3⟩
      · cases h
end
theorem mem_apL2 {a b : List Int} {k : Nat} {x : Int} (h : x ∈ apL a b k) : 0 ≤ x ∧ x < (k : Int) := by
  obtain ⟨i, rfl, h1, _⟩ := mem_apL.1 h
  omega
/-- The state of the count: the result's cell, the counts' cell, both lists. -/
structure RtSt (w0 : World) (φ0 φ : Phi) (b6 b10 g1 g2 c1 c2 m n : Nat) (x : Int) (X1 X2 : List Int) (w : World) : Prop where
  inv : Inv w0.heap.size w0 φ0 φ w
  o1 : Own w0.heap.size φ w 3 (some ⟨g1, 0, none⟩) c1 X1
  o2 : Own w0.heap.size φ w 3 (some ⟨g2, 0, none⟩) c2 X2
  k6 : Blk w b6 #[.int .i64 0, .slice none 0 0, .slice none 0 0] 38
  k10 : Blk w b10 #[.int .i64 x, .slice (some ⟨g1, 0, none⟩) m c1, .slice (some ⟨g2, 0, none⟩) n c2] 38
  f6 : φ b6 = none
  f10 : φ b10 = none
  l6 : w0.heap.size ≤ b6
  l10 : w0.heap.size ≤ b10
  d1 : b6 ≠ b10
  d2 : g1 ≠ b6
  d3 : g1 ≠ b10
  d4 : g2 ≠ b6
  d5 : g2 ≠ b10
  d6 : g1 ≠ g2
section
variable {w0 w w' : World} {φ0 φ φ' : Phi} {b6 b10 g1 g2 c1 c2 m n : Nat} {x : Int} {X1 X2 : List Int}
theorem RtSt.call (h : RtSt w0 φ0 φ b6 b10 g1 g2 c1 c2 m n x X1 X2 w) (hi : Inv w.heap.size w φ φ' w') : RtSt w0 φ0 φ' b6 b10 g1 g2 c1 c2 m n x X1 X2 w' :=
  ⟨h.inv.call hi, h.o1.call hi, h.o2.call hi, h.k6.callB hi.bel, h.k10.callB hi.bel, (hi.new _ h.k6.lt).trans h.f6, (hi.new _ h.k10.lt).trans h.f10, h.l6, h.l10, h.d1, h.d2, h.d3, h.d4, h.d5, h.d6⟩
theorem RtSt.callB (h : RtSt w0 φ0 φ b6 b10 g1 g2 c1 c2 m n x X1 X2 w) (hb : Below w.heap.size w w') : RtSt w0 φ0 φ b6 b10 g1 g2 c1 c2 m n x X1 X2 w' :=
  ⟨h.inv.callB hb, h.o1.callB hb, h.o2.callB hb, h.k6.callB hb, h.k10.callB hb, h.f6, h.f10, h.l6, h.l10, h.d1, h.d2, h.d3, h.d4, h.d5, h.d6⟩
theorem gset (w : World) (g off : Nat) (u : Value) : w.grownBy (w.setCell ⟨g, off, none⟩ u) (some g) := ⟨rfl, rfl, rfl, by simp [World.setCell], fun k _ hk => Below.heap_setCell _ _ _ _ (by intro e; exact hk (by rw [e]))⟩
/-- A store into the first list. -/
theorem RtSt.put1 (h : RtSt w0 φ0 φ b6 b10 g1 g2 c1 c2 m n x X1 X2 w) {k : Nat} {v : Value} {Y : List Int} (ho : Own w0.heap.size φ (w.setCell ⟨g1, k, none⟩ v) 3 (some ⟨g1, 0, none⟩) c1 Y) (hi : Inv w0.heap.size w0 φ0 φ (w.setCell ⟨g1, k, none⟩ v)) : RtSt w0 φ0 φ b6 b10 g1 g2 c1 c2 m n x Y X2 (w.setCell ⟨g1, k, none⟩ v) :=
  ⟨hi, ho, h.o2.other (gset _ _ _ _) (fun y hy e => by cases hy; exact h.d6 (Option.some.inj e).symm), h.k6.other (by show g1 ≠ b6; exact h.d2) _, h.k10.other (by show g1 ≠ b10; exact h.d3) _, h.f6, h.f10, h.l6, h.l10, h.d1, h.d2, h.d3, h.d4, h.d5, h.d6⟩
theorem RtSt.put2 (h : RtSt w0 φ0 φ b6 b10 g1 g2 c1 c2 m n x X1 X2 w) {k : Nat} {v : Value} {Y : List Int} (ho : Own w0.heap.size φ (w.setCell ⟨g2, k, none⟩ v) 3 (some ⟨g2, 0, none⟩) c2 Y) (hi : Inv w0.heap.size w0 φ0 φ (w.setCell ⟨g2, k, none⟩ v)) : RtSt w0 φ0 φ b6 b10 g1 g2 c1 c2 m n x X1 Y (w.setCell ⟨g2, k, none⟩ v) :=
  ⟨hi, h.o1.other (gset _ _ _ _) (fun y hy e => by cases hy; exact h.d6 (Option.some.inj e)), ho, h.k6.other (by show g2 ≠ b6; exact h.d4) _, h.k10.other (by show g2 ≠ b10; exact h.d5) _, h.f6, h.f10, h.l6, h.l10, h.d1, h.d2, h.d3, h.d4, h.d5, h.d6⟩
/-- A store into the count of changes. -/
theorem RtSt.putx (h : RtSt w0 φ0 φ b6 b10 g1 g2 c1 c2 m n x X1 X2 w) (y : Int) : RtSt w0 φ0 φ b6 b10 g1 g2 c1 c2 m n y X1 X2 (w.setCell ⟨b10, 0, none⟩ (.int .i64 y)) :=
  ⟨h.inv.setCell h.l10 h.f10 _, h.o1.other (gset _ _ _ _) (fun y hy e => by cases hy; exact h.d3 (Option.some.inj e)), h.o2.other (gset _ _ _ _) (fun y hy e => by cases hy; exact h.d5 (Option.some.inj e)), h.k6.other (by show b10 ≠ b6; exact fun e => h.d1 e.symm) _, h.k10.set 0 _, h.f6, h.f10, h.l6, h.l10, h.d1, h.d2, h.d3, h.d4, h.d5, h.d6⟩
end
theorem RtSt.make {w0 w1 W : World} {φ0 φ : Phi} {b6 b10 g1 g2 c1 c2 m n : Nat} {x : Int} {X1 X2 : List Int} (h : ResSt w0 φ0 φ b6 #[.int .i64 0, .slice none 0 0, .slice none 0 0] 38 w1) (hb : Below w1.heap.size w1 W) (o1 : Own w1.heap.size φ W 3 (some ⟨g1, 0, none⟩) c1 X1) (o2 : Own w1.heap.size φ W 3 (some ⟨g2, 0, none⟩) c2 X2)
    (k10 : Blk W b10 #[.int .i64 x, .slice (some ⟨g1, 0, none⟩) m c1, .slice (some ⟨g2, 0, none⟩) n c2] 38) (l10 : w1.heap.size ≤ b10) (d3 : g1 ≠ b10) (d5 : g2 ≠ b10) (d6 : g1 ≠ g2) : RtSt w0 φ0 φ b6 b10 g1 g2 c1 c2 m n x X1 X2 W := by
  have h1 := (o1.lt _ rfl).1
  have h2 := (o2.lt _ rfl).1
  have h3 := h.k.lt
  have h4 := h.inv.size
  dsimp only at h1 h2
  exact ⟨h.inv.callB hb, o1.base h4, o2.base h4, h.k.callB hb, k10, h.f, h.inv.fz.new_none l10, h.l, Nat.le_trans h4 l10, by omega, by omega, d3, by omega, d5, d6⟩
theorem RtSt.release {w0 w : World} {φ0 φ : Phi} {b6 b10 g1 g2 c1 c2 m n : Nat} {x : Int} {X1 X2 : List Int} (h : RtSt w0 φ0 φ b6 b10 g1 g2 c1 c2 m n x X1 X2 w) : ∃ φ', Inv w0.heap.size w0 φ0 φ' w ∧ SlV φ' (some ⟨g1, 0, none⟩) c1 X1 ∧ SlV φ' (some ⟨g2, 0, none⟩) c2 X2 ∧ φ' b6 = none := by
  obtain ⟨φ1, l1, i1, s1, f1⟩ := h.o1.release h.inv
  have o2' : Own w0.heap.size φ1 w 3 (some ⟨g2, 0, none⟩) c2 X2 := by
    obtain ⟨⟨cells, hr, hl⟩, hfr⟩ := h.o2
    refine ⟨⟨cells, hr, hl.mono l1⟩, fun y hy => ?_⟩
    cases hy
    rw [f1 _ (by simpa using h.d6.symm)]
    exact hfr _ rfl
  obtain ⟨φ2, l2, i2, s2, f2⟩ := o2'.release i1
  exact ⟨φ2, i2, s1.mono l2, s2, (f2 _ (by simpa using h.d4.symm)).trans ((f1 _ (by simpa using h.d2.symm)).trans h.f6)⟩
/-- A region whose ways end in one state, but for three addresses. -/
theorem wp_region_cut3 {P : Program} {id : Nat} {ops : Array Oper} {b : Bool} {Q : Exit → Act → World → Prop} {a : Act} {w : World} {fr : Nat → Nat → Nat → Act} (S : Nat → Nat → Nat → World → Prop) (h1 : (Code.region id ops b).wp P (OnlyN fun a' w' => ∃ x y z, a' = fr x y z ∧ S x y z w') a w) (h2 : ∀ x y z w, S x y z w → Q .normal (fr x y z) w) : (Code.region id ops b).wp P Q a w :=
  Code.wp_mono (fun e a w h => by
    cases e <;> first | exact h.elim | (obtain ⟨x, y, z, rfl, hs⟩ := (h : ∃ x y z, a = fr x y z ∧ S x y z w); exact h2 x y z w hs)) h1
/-- What Report hands back. -/
def RepoPost (r : RpS) (F : Int) (φ : Phi) (w : World) (e : Ending) (w' : World) : Prop :=
  ∃ φ' a1 n1 c1 a2 n2 c2, e = .returned (.tuple #[.agg #[.int .i64 r.1, .slice a1 n1 c1, .slice a2 n2 c2], .int .i64 F]) ∧ Inv w.heap.size w φ φ' w' ∧ SlV φ' a1 c1 r.2.1 ∧ SlV φ' a2 c2 r.2.2 ∧ r.2.1.length = n1 ∧ r.2.2.length = n2
end Go.Proofs.YtkfmadeeobalaaaDoor
