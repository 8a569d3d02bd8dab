/- The walk of the reference's sums. Rows of rows of the call's own, one row for each cell; the walk of the program's cellSums. The walk of the program's cellSums. Conditions: none beyond what the claim form gives. -/
import Derived.Test.YtmlpjffnmkndoaaGreatDoorHR
import Derived.Test.YtmlpjffnmkndoaaGreatDoorJE
import Derived.Test.YtmlpjffnmkndoaaGreatDoorJX
import Derived.Outline
import Derived.Test.YtmlpjffnmkndoaaGreatDoorJP
namespace Go.Proofs.YtmlpjffnmkndoaaGreatDoor
open Go.RowKit
set_option linter.unusedVariables false
set_option linter.unusedSimpArgs false
theorem repL_rawR {φ : Phi} {N D : Nat} : ∀ {xs : List (Rx N D)} {cells : List Value}, RepL φ xs cells → ∃ rs : List Raw3, RepL φ rs cells ∧ rs.length = xs.length ∧ ∀ m, m < rs.length → FrX φ (rs.getD m raw0).v (xs.getD m ⟨0⟩).x N D
  | [], cells, h => ⟨[], h, rfl, fun m hm => absurd hm (Nat.not_lt_zero m)⟩
  | x :: xs, cells, h => by
    obtain ⟨cs, rest, rfl, ⟨g, a1, k1, c1, a2, k2, c2, rfl, hx⟩, hr⟩ := h
    obtain ⟨rs, h1, h2, h3⟩ := repL_rawR hr
    refine ⟨⟨g, a1, k1, c1, a2, k2, c2⟩ :: rs, ⟨_, rest, rfl, rfl, h1⟩, by simp [h2], fun m hm => ?_⟩
    cases m with
    | zero => exact hx
    | succ m =>
      have := h3 m (by simpa using hm)
      simpa using this
theorem rawL_rx {φ : Phi} {N D : Nat} : ∀ {rs : List Raw3} {xs : List Rat} {cells : List Value}, RepL φ rs cells → rs.length = xs.length → (∀ m, m < rs.length → FrX φ (rs.getD m raw0).v (xs.getD m 0) N D) → RepL φ (xs.map (Rx.mk (N := N) (D := D))) cells
  | [], [], cells, h, _, _ => h
  | [], x :: xs, _, _, hl, _ => by simp at hl
  | r :: rs, [], _, _, hl, _ => by simp at hl
  | r :: rs, x :: xs, cells, h, hl, hx => by
    obtain ⟨cs, rest, rfl, hr, h2⟩ := h
    have hr : cs = [.bool r.g, .slice r.a1 r.k1 r.c1, .slice r.a2 r.k2 r.c2] := hr
    subst hr
    have h0 := hx 0 (by simp)
    exact ⟨_, rest, rfl, ⟨r.g, r.a1, r.k1, r.c1, r.a2, r.k2, r.c2, rfl, h0⟩, rawL_rx h2 (by simpa using hl) (fun m hm => by
      have := hx (m + 1) (by simpa using hm)
      simpa using this)⟩
theorem Own.rawR {B : Nat} {φ : Phi} {w : World} {E : TypeId} {a : Option Addr} {cap N D : Nat} {xs : List (Rx N D)} (h : Own B φ w E a cap xs) : ∃ rs : List Raw3, rs.length = xs.length ∧ Own B φ w E a cap rs ∧ ∀ m, m < rs.length → FrX φ (rs.getD m raw0).v (xs.getD m ⟨0⟩).x N D := by
 obtain ⟨cells, h1, h2⟩ := h.row
 obtain ⟨rs, h3, h4, h5⟩ := repL_rawR h2
 exact ⟨rs, h4, ⟨⟨cells, by rw [h4]; exact h1, h3⟩, h.free⟩, h5⟩
theorem Own.rxs {B : Nat} {φ : Phi} {w : World} {E : TypeId} {a : Option Addr} {cap N D : Nat} {rs : List Raw3} {xs : List Rat} (h : Own B φ w E a cap rs) (hl : rs.length = xs.length) (hx : ∀ m, m < rs.length → FrX φ (rs.getD m raw0).v (xs.getD m 0) N D) : Own B φ w E a cap (xs.map (Rx.mk (N := N) (D := D))) := by
 obtain ⟨cells, h1, h2⟩ := h.row
 exact ⟨⟨cells, by rw [List.length_map, ← hl]; exact h1, rawL_rx h2 hl hx⟩, h.free⟩
/-- The sums of all cells, from a list of numbers. -/
noncomputable def celR (ws : List Rat) (l : List Psn) (mi nt k : Nat) : List Rat := (List.range nt).map (fun (c : Nat) => celQ (fun j => ws.getD j 0) l mi (c : Int) k)
theorem celR_get {ws : List Rat} {l : List Psn} {mi nt k c : Nat} (h : c < nt) : (celR ws l mi nt k).getD c 0 = celQ (fun j => ws.getD j 0) l mi (c : Int) k := by
 simp [celR, h]
theorem raw_setS {rs : List Raw3} {y : Raw3} {c : Nat} (h : c < rs.length) : (rs.set c y).getD c raw0 = y := by
 simp [List.getD_eq_getElem?_getD, h]
theorem raw_setN {rs : List Raw3} {y : Raw3} {c m : Nat} (h : m ≠ c) : (rs.set c y).getD m raw0 = rs.getD m raw0 := by
 simp [List.getD_eq_getElem?_getD, List.getElem?_set_ne (Ne.symm h)]
end Go.Proofs.YtmlpjffnmkndoaaGreatDoor

namespace Go.Proofs.YtmlpjffnmkndoaaGreatDoor
open Go.RowKit
set_option linter.unusedVariables false
set_option linter.unusedSimpArgs false
theorem grown_setP (w : World) (g k : Nat) (v : Value) : w.grownBy (w.setCell ⟨g, k, none⟩ v) (some g) := ⟨rfl, rfl, rfl, by simp [World.setCell], fun k _ hk => Below.heap_setCell _ _ _ _ (by intro e; exact hk (by rw [e]))⟩
theorem HdrL.ofP {α : Type} [Rep α] {φ : Phi} : ∀ {hs : List Hdr} {gs : List (List α)}, hs.length = gs.length → (∀ k (h1 : k < hs.length) (h2 : k < gs.length), SlV φ hs[k].a hs[k].c gs[k] ∧ hs[k].n = gs[k].length) → HdrL φ hs gs
 | [], [], _, _ => trivial
 | x :: hs, g :: gs, hl, h => ⟨h 0 (by simp) (by simp), HdrL.ofP (by simpa using hl) (fun k h1 h2 => h (k + 1) (by simpa using h1) (by simpa using h2))⟩
 | [], _ :: _, hl, _ => by simp at hl
 | _ :: _, [], hl, _ => by simp at hl
theorem Own.toPhiP {α : Type} [Rep α] {B : Nat} {φ φ' : Phi} {w : World} {E : TypeId} {a : Option Addr} {c : Nat} {xs : List α} (h : Own B φ w E a c xs) (hl : φ.le φ') (hf : ∀ x, a = some x → φ' x.block = φ x.block) : Own B φ' w E a c xs := by
 obtain ⟨⟨cells, hr, hll⟩, hfr⟩ := h
 exact ⟨⟨cells, hr, hll.mono hl⟩, fun y hy => (hf y hy).trans (hfr y hy)⟩
/-- A row of headers, and a row for each of them, all the call's own. -/
structure PtS {α : Type} [Rep α] (F E : TypeId) (w0 : World) (φ0 φ : Phi) (ah : Option Addr) (ch : Nat) (hs : List Hdr) (m : Nat) (pl : Nat → List α) (W : World) : Prop where
 inv : Inv w0.heap.size w0 φ0 φ W
 oh : Own w0.heap.size φ W F ah ch hs
 row : ∀ e, e < m → Own w0.heap.size φ W E (hs.getD e hdr0).a (hs.getD e hdr0).c (pl e) ∧ (hs.getD e hdr0).n = (pl e).length
 nh : ∀ e x y, e < m → (hs.getD e hdr0).a = some x → ah = some y → x.block ≠ y.block
 nr : ∀ e f x y, e < m → f < m → e ≠ f → (hs.getD e hdr0).a = some x → (hs.getD f hdr0).a = some y → x.block ≠ y.block
 hl : hs.length = m
section
variable {α : Type} [Rep α] {F E : TypeId} {w0 W w' : World} {φ0 φ φ' : Phi} {ah : Option Addr} {ch m : Nat} {hs : List Hdr} {pl pl' : Nat → List α}
theorem PtS.call (h : PtS F E w0 φ0 φ ah ch hs m pl W) (hi : Inv W.heap.size W φ φ' w') : PtS F E w0 φ0 φ' ah ch hs m pl w' :=
 ⟨h.inv.call hi, h.oh.call hi, fun e he => ⟨(h.row e he).1.call hi, (h.row e he).2⟩, h.nh, h.nr, h.hl⟩
theorem PtS.callB (h : PtS F E w0 φ0 φ ah ch hs m pl W) (hb : Below W.heap.size W w') : PtS F E w0 φ0 φ ah ch hs m pl w' :=
 ⟨h.inv.callB hb, h.oh.callB hb, fun e he => ⟨(h.row e he).1.callB hb, (h.row e he).2⟩, h.nh, h.nr, h.hl⟩
theorem PtS.alloc (h : PtS F E w0 φ0 φ ah ch hs m pl W) (o : Obj) : PtS F E w0 φ0 φ ah ch hs m pl (W.alloc o) := h.callB ((Below.refl _ _).alloc (Nat.le_refl _) o)
theorem PtS.congr (h : PtS F E w0 φ0 φ ah ch hs m pl W) (he : ∀ e, e < m → pl' e = pl e) : PtS F E w0 φ0 φ ah ch hs m pl' W :=
 ⟨h.inv, h.oh, fun e hm => by rw [he e hm]; exact h.row e hm, h.nh, h.nr, h.hl⟩
theorem PtS.start (hi : Inv w0.heap.size w0 φ0 φ W) (oh : Own w0.heap.size φ W F ah ch (List.replicate m hdr0)) : PtS F E w0 φ0 φ ah ch (List.replicate m hdr0) m (fun _ => ([] : List α)) W := by
 have hg : ∀ e, (List.replicate m hdr0).getD e hdr0 = hdr0 := fun e => by
  by_cases he : e < m
  ·simp [List.getD_eq_getElem?_getD, he]
  ·simp [List.getD_eq_getElem?_getD, he]
 refine ⟨hi, oh, fun e he => ?_, fun e x y he h => ?_, fun e f x y he hf hne h => ?_, by simp⟩
 ·rw [hg]; exact ⟨Own.nil _ _ _ _, rfl⟩
 ·rw [hg] at h; cases h
 ·rw [hg] at h; cases h
/-- The outer row behind an append to row e. -/
theorem PtS.ohw {e : Nat} (h : PtS F E w0 φ0 φ ah ch hs m pl W) (he : e < m) (hg : W.grownBy w' ((hs.getD e hdr0).a.map (·.block))) : Own w0.heap.size φ w' F ah ch hs :=
 h.oh.other hg (fun y hy q => by
  cases hq : (hs.getD e hdr0).a with
  | none => rw [hq] at q; cases q
  | some z => rw [hq] at q; exact h.nh e z y he hq hy (by simpa using q.symm))
/-- Behind an append to row e, the longer slice laid into its header. -/
theorem PtS.put {e gh : Nat} {a' : Option Addr} {c' n' : Nat} {l' : List α} (h : PtS F E w0 φ0 φ (some ⟨gh, 0, none⟩) ch hs m pl W) (he : e < m)
    (hi : Inv w0.heap.size w0 φ0 φ w') (ho : Own w0.heap.size φ w' E a' c' l') (hn : n' = l'.length) (hg : W.grownBy w' ((hs.getD e hdr0).a.map (·.block))) (hf : ∀ x, a' = some x → (hs.getD e hdr0).a.map (·.block) = some x.block ∨ W.heap.size ≤ x.block) :
    PtS F E w0 φ0 φ (some ⟨gh, 0, none⟩) ch (hs.set e ⟨a', n', c'⟩) m (fun f => if f = e then l' else pl f) (w'.setCell ⟨gh, e, none⟩ (.slice a' n' c')) := by
  have far : ∀ x y : Addr, a' = some x → y.block < W.heap.size → (∀ z, (hs.getD e hdr0).a = some z → z.block ≠ y.block) → x.block ≠ y.block := fun x y hx hy hz => by
    rcases hf x hx with q | q
    · cases hq : (hs.getD e hdr0).a with
      | none => rw [hq] at q; cases q
      | some z => rw [hq] at q; have := hz z hq; have e2 : z.block = x.block := by simpa using q
                  omega
    · omega
  have old : ∀ y : Addr, (∀ z, (hs.getD e hdr0).a = some z → z.block ≠ y.block) → some y.block ≠ (hs.getD e hdr0).a.map (·.block) := fun y hz q => by
    cases hq : (hs.getD e hdr0).a with
    | none => rw [hq] at q; cases q
    | some z => rw [hq] at q; exact hz z hq (by simpa using q.symm)
  have oh1 := h.ohw he hg
  have hlt := h.oh.lt _ rfl
  have hd := oh1.hdrD (Lib.hid h.hl) he
  obtain ⟨g2, hg2, _, _, hφ, _, _, hset⟩ := hd
  cases hg2
  obtain ⟨oh2, hi2⟩ := hset ⟨a', n', c'⟩ w0 φ0 hi
  have hgr := grown_setP w' gh e (.slice a' n' c')
  have hgd : ∀ f, f < m → (hs.set e ⟨a', n', c'⟩).getD f hdr0 = if f = e then ⟨a', n', c'⟩ else hs.getD f hdr0 := fun f hm => by
    rw [List.getD_eq_getElem?_getD, List.getElem?_set, List.getD_eq_getElem?_getD]
    by_cases q : e = f
    · subst q; simp [h.hl, he]
    · rw [if_neg q, if_neg (fun p => q p.symm)]
  refine ⟨hi2, oh2, fun f hm => ?_, fun f x y hm hx hy => ?_, fun f1 f2 x y h1 h2 hne hx hy => ?_, by rw [List.length_set]; exact h.hl⟩
  · rw [hgd f hm]
    by_cases q : f = e
    · subst q
      rw [if_pos rfl, if_pos rfl]
      exact ⟨ho.other hgr (fun y hy q => far y _ hy hlt.2 (fun z hz => h.nh f z _ hm hz rfl) (Option.some.inj q)), hn⟩
    · rw [if_neg q, if_neg q]
      exact ⟨((h.row f hm).1.other hg (fun y hy => old y (fun z hz => h.nr e f z y he hm (fun p => q p.symm) hz hy))).other hgr (fun y hy q => h.nh f y _ hm hy rfl (Option.some.inj q)), (h.row f hm).2⟩
  · rw [hgd f hm] at hx
    by_cases q : f = e
    · rw [if_pos q] at hx
      exact far x y hx (h.oh.lt y hy).2 (fun z hz => h.nh e z y he hz hy)
    · rw [if_neg q] at hx
      exact h.nh f x y hm hx hy
  · rw [hgd f1 h1] at hx
    rw [hgd f2 h2] at hy
    by_cases q1 : f1 = e
    · rw [if_pos q1] at hx
      rw [if_neg (fun q2 => hne (q1.trans q2.symm))] at hy
      exact far x y hx ((h.row f2 h2).1.lt y hy).2 (fun z hz => h.nr e f2 z y he h2 (fun p => hne (q1.trans p)) hz hy)
    · rw [if_neg q1] at hx
      by_cases q2 : f2 = e
      · rw [if_pos q2] at hy
        exact fun p => far y x hy ((h.row f1 h1).1.lt x hx).2 (fun z hz => h.nr e f1 z x he h1 (fun p => q1 p.symm) hz hx) p.symm
      · rw [if_neg q2] at hy
        exact h.nr f1 f2 x y h1 h2 hne hx hy
/-- All rows and the outer row frozen. -/
theorem PtS.rel (h : PtS F E w0 φ0 φ ah ch hs m pl W) : ∃ φ', φ.le φ' ∧ Inv w0.heap.size w0 φ0 φ' W ∧ SlV φ' ah ch ((List.range m).map pl) := by
  have rows : ∀ k, k ≤ m → ∃ φ', φ.le φ' ∧ Inv w0.heap.size w0 φ0 φ' W ∧ (∀ e, e < k → SlV φ' (hs.getD e hdr0).a (hs.getD e hdr0).c (pl e)) ∧ (∀ b, (∀ e x, e < k → (hs.getD e hdr0).a = some x → x.block ≠ b) → φ' b = φ b) := by
    intro k
    induction k with
    | zero => exact fun _ => ⟨φ, φ.le_refl, h.inv, fun e he => by omega, fun _ _ => rfl⟩
    | succ k ih =>
      intro hk
      obtain ⟨φ1, l1, i1, s1, f1⟩ := ih (by omega)
      have o1 : Own w0.heap.size φ1 W E (hs.getD k hdr0).a (hs.getD k hdr0).c (pl k) := (h.row k (by omega)).1.toPhiP l1 (fun x hx => f1 _ (fun e y he hy q => h.nr e k y x (by omega) (by omega) (by omega) hy hx q))
      obtain ⟨φ2, l2, i2, s2, f2⟩ := o1.release i1
      refine ⟨φ2, l1.trans l2, i2, fun e he => ?_, fun b hb => ?_⟩
      · by_cases q : e = k
        · subst q; exact s2
        · exact (s1 e (by omega)).mono l2
      · refine (f2 b (fun q => ?_)).trans (f1 b (fun e x he hx => hb e x (by omega) hx))
        cases hq : (hs.getD k hdr0).a with
        | none => rw [hq] at q; cases q
        | some z => rw [hq] at q; exact hb k z (by omega) hq (by simpa using q.symm)
  obtain ⟨φ1, l1, i1, s1, f1⟩ := rows m (Nat.le_refl _)
  have oh1 := h.oh.toPhiP l1 (fun x hx => f1 _ (fun e y he hy q => h.nh e y x he hy hx q))
  obtain ⟨φ2, l2, i2, s2, f2⟩ := oh1.release i1
  refine ⟨φ2, l1.trans l2, i2, ?_⟩
  refine s2.ofHdr (HdrL.ofP (by rw [h.hl]; simp) (fun k h1 h2 => ?_))
  have hk : k < m := by rw [← h.hl]; exact h1
  rw [← getD_elem0 hdr0 _ _ h1]
  simp only [List.getElem_map, List.getElem_range]
  exact ⟨(s1 k hk).mono l2, (h.row k hk).2⟩
end
/-- The numbers of those in a cell. -/
def prtL (ws : List Rat) (l : List Psn) (mi : Nat) (c : Int) : Nat → List Rat
 | 0 => []
 | k + 1 => if celI l mi k = c then prtL ws l mi c k ++ [ws.getD k 0] else prtL ws l mi c k
theorem prtL_len {ws : List Rat} {l : List Psn} {mi k : Nat} {c : Int} : (prtL ws l mi c k).length ≤ k := by
  induction k with
  | zero => exact Nat.le_refl _
  | succ k ih =>
    unfold prtL
    split
    · rw [List.length_append]; simp; exact ih
    · omega
theorem prtL_sum {ws : List Rat} {l : List Psn} {mi k : Nat} {c : Int} : sumQ (prtL ws l mi c k) = celQ (fun j => ws.getD j 0) l mi c k := by
  induction k with
  | zero => rfl
  | succ k ih =>
    unfold prtL
    split
    · next h => rw [sumQ_snoc, ih, celQ_yes h]
    · next h => rw [ih, celQ_no h]
theorem prtL_yes {ws : List Rat} {l : List Psn} {mi k : Nat} {c : Int} (h : celI l mi k = c) : prtL ws l mi c (k + 1) = prtL ws l mi c k ++ [ws.getD k 0] := by
 show (if celI l mi k = c then _ else _) = _
 rw [if_pos h]
theorem prtL_no {ws : List Rat} {l : List Psn} {mi k : Nat} {c : Int} (h : ¬ celI l mi k = c) : prtL ws l mi c (k + 1) = prtL ws l mi c k := by
 show (if celI l mi k = c then _ else _) = _
 rw [if_neg h]
abbrev prtX (N D : Nat) (ws : List Rat) (l : List Psn) (mi k : Nat) (e : Nat) : List (Fx N D) := (prtL ws l mi (e : Int) k).map Fx.mk
theorem prtX_step {N D : Nat} {ws : List Rat} {l : List Psn} {mi k c : Nat} (h : celI l mi k = (c : Int)) (e : Nat) : prtX N D ws l mi (k + 1) e = if e = c then prtX N D ws l mi k c ++ [⟨ws.getD k 0⟩] else prtX N D ws l mi k e := by
 unfold prtX
 by_cases he : e = c
 ·subst he
  rw [if_pos rfl, prtL_yes h, List.map_append]; rfl
 ·rw [if_neg he, prtL_no (by rw [h]; omega)]
end Go.Proofs.YtmlpjffnmkndoaaGreatDoor

namespace Go.Proofs.YtmlpjffnmkndoaaGreatDoor
open Go.RowKit
set_option linter.unusedVariables false
set_option linter.unusedSimpArgs false
theorem makeF_eq (n : Nat) (h : 24 * n ≤ 281474976710656) (w : World) : (Instr.makeSlice 138 (.int .i64 (n : Int)) (.int .i64 (n : Int))).run Tryz.prog w = .ok (.slice (some ⟨w.heap.size, 0, none⟩) n n) (w.alloc (.cells (madeCells #[.slice none 0 0] n) 62)) :=
 run_make_row' 138 62 (.slice none 0 0) 24 Tryz.underlying138 (by kernel_rfl) rfl .i64 .i64 n h (by omega) w
theorem madeF_list (n : Nat) : (madeCells #[Value.slice none 0 0] n).toList = List.replicate n (Value.slice none 0 0) := by
 unfold madeCells
 rw [Array.toList_map, Array.toList_range]
 apply List.ext_getElem
 ·simp
 ·intro i h1 h2
  simp [Nat.mod_one]
theorem Own.madeF {B : Nat} {w0 w : World} {φ0 φ : Phi} (hi : Inv B w0 φ0 φ w) (E : TypeId) (n : Nat) (hn : n ≤ maxLen) : Own B φ (w.alloc (.cells (madeCells #[.slice none 0 0] n) E)) E (some ⟨w.heap.size, 0, none⟩) n (List.replicate n hdr0) := by
 have hr : RepL φ (List.replicate n hdr0) (madeCells #[.slice none 0 0] n).toList := by
  rw [madeF_list]
  have h := RepL.replicate (φ := φ) (α := Hdr) (y := hdr0) (rfl : Rep.rep φ hdr0 [Value.slice none 0 0]) n
  have e : (List.replicate n [Value.slice none 0 0]).flatten = List.replicate n (Value.slice none 0 0) := by simp
  rwa [e] at h
 have := Own.lit hi E hr (by rw [List.length_replicate]; exact hn)
 rwa [List.length_replicate] at this
/-- The sums of all cells, from a list of numbers (the program's). -/
theorem SlV.listX {φ : Phi} {N D : Nat} {a : Option Addr} {cap : Nat} {xs : List (List (Fx N D))} (h : SlV φ a cap xs) {k n : Nat} (hn : Hid (xs.length = n)) (hk : k < n) :
  ∃ b off, a = some ⟨b, off, none⟩ ∧ ∀ k, k < n → ∃ ar cr, SlV φ ar cr (xs.getD k []) ∧ ∀ w, Fz φ w → w.cell? ⟨b, off + k, none⟩ = some (.slice ar (xs.getD k []).length cr) := by
 obtain ⟨b, off, ha, hc⟩ := h.cellsD [] hn hk
 refine ⟨b, off, ha, fun k hk => ?_⟩
 obtain ⟨cs, ⟨ar, cr, rfl, hr⟩, hj⟩ := hc k hk
 refine ⟨ar, cr, hr, fun w hw => ?_⟩
 have j0 := hj 0 (by simp)
 simp [Rep.size] at j0
 exact hw.cell j0
set_option maxRecDepth 100000 in
set_option maxHeartbeats 4000000 in
theorem cellSums_any {M : Nat} (hD : Hid (DivOk M)) (hM : LenB M) {N D : Nat} (hD1 : 1 ≤ D) {n : Nat} (hM1 : n * N * D ^ n ≤ M) (hM2 : D ^ n ≤ M) {m : List Mgn} {nm cm mi nt : Nat} {a0 : Option Addr} {al : Option Addr} {cl : Nat} {l : List Psn} {aw : Option Addr} {cw : Nat} {ws : List Rat} {w : World} {φ : Phi} (hφ : Fz φ w) (sm : SlV φ a0 cm m) (hnm : Hid (m.length = nm)) (hmn : mi < nm) (hnt9 : Hid ((m.getD mi mgn0).2.length = nt)) (sl : SlV φ al cl l) (hn : Hid (l.length = n)) (sw : SlV φ aw cw (ws.map (Fx.mk (N := N) (D := D)))) (hw : Hid (ws.length = n)) (hn3 : n ≤ 3000) (hnt : nt ≤ 40) (hmi : mi ≤ 8) (hc : Hid (∀ j, j < n → mi < (l.getD j psn0).2.1.length ∧ ∃ c : Nat, c < nt ∧ celI l mi j = (c : Int))) :
  Calls Tryz.prog 53 #[.slice a0 nm cm, .slice al n cl, .slice aw n cw, .int .i64 (mi : Int)] w (SlPost1 ((celR ws l mi nt n).map (Fx.mk (N := n * N * D ^ n) (D := D ^ n))) φ w) := by
 have hwm : Hid ((ws.map (Fx.mk (N := N) (D := D))).length = n) := Lib.hid (by rw [List.length_map, hw.out])
 have hbd : Hid (∀ k, k ≤ n → (k * N * D ^ k ≤ M ∧ D ^ k ≤ M) ∧ k * N * D ^ k ≤ n * N * D ^ n ∧ D ^ k ≤ D ^ n) := Lib.hid (fun k hk =>
  ⟨⟨Nat.le_trans (sumB_mono hD1 hk) hM1, Nat.le_trans (powB_mono hD1 hk) hM2⟩, sumB_mono hD1 hk, powB_mono hD1 hk⟩)
 have HSL := Lib.hid sl
 have HSW := Lib.hid sw
 obtain ⟨bm, om, rfl, fm⟩ := sm.mgnsD hnm hmn
 obtain ⟨ar, cr, sr, f1⟩ := fm mi hmn
 have d1 := (f1 w hφ).2
 rw [hnt9.out] at d1
 have hcr : nt ≤ 9223372036854775807 := by omega
 have hmni : (mi : Int) < (nm : Int) := by omega
 have hnml : nm ≤ 9223372036854775807 := by have := sm.capn; have := sm.capm; rw [hnm.out] at *; unfold maxLen at *; omega
 have em := makeF_eq nt (by omega)
 have HI0 := Lib.hid (Inv.start hφ)
 obtain ⟨NB, hNB⟩ : ∃ x, Hid (n * N * D ^ n = x) := ⟨_, Lib.hid rfl⟩
 obtain ⟨DB, hDB⟩ : ∃ x, Hid (D ^ n = x) := ⟨_, Lib.hid rfl⟩
 rw [hNB.out, hDB.out]
 clear hφ sl sw hM1 hM2 fm f1 sr
 go_enter Tryz.func53, Tryz.ntmps53
 go_upto_region 2 with fail
 have hS0 : Hid (PtS 62 70 w φ φ (some ⟨w.heap.size, 0, none⟩) nt (List.replicate nt hdr0) nt (fun _ => ([] : List (Fx N D))) (w.alloc (.cells (madeCells #[.slice none 0 0] nt) 62))) := Lib.hid (PtS.start (HI0.out.alloc _) (Own.madeF HI0.out _ nt (by unfold maxLen; omega)))
 generalize w.alloc (.cells (madeCells #[.slice none 0 0] nt) 62) = wx at *
 obtain ⟨gh, hgh⟩ : ∃ b, w.heap.size = b := ⟨_, rfl⟩
 rw [hgh] at hS0 ⊢
 have HGH := Lib.hid hgh
 clear hgh em d1
 go_wp2
 go_loopw [25] (fun iv wr => ∃ (k : Nat) (hs : List Hdr) (φ' : Phi), k ≤ n ∧ iv = .int .i64 (k : Int) ∧ Hid (φ.le φ') ∧ Hid (PtS 62 70 w φ φ' (some ⟨gh, 0, none⟩) nt hs nt (prtX N D ws l mi k) wr)) (fun iv _ => n - (intOf iv).toNat)
 case atStart => exact ⟨0, List.replicate nt hdr0, φ, Nat.zero_le _, rfl, Lib.hid φ.le_refl, hS0⟩
 case round =>
  clear hS0
  obtain ⟨j, hs, φ'', hj, rfl, hle, hS⟩ := hrel
  by_cases hjl : j < n
  ·have hjli : (j : Int) < (n : Int) := by omega
   obtain ⟨b, off, rfl, fp⟩ := HSL.out.psnsD hn hjl
   obtain ⟨ac, cc, sc, f2⟩ := fp j hjl
   obtain ⟨d0, d1, d2, d3, d4, d5⟩ := f2 wr (hS.out.inv.fz.sub hS.out.inv.le)
   obtain ⟨hml', ct, hct, hce⟩ := hc.out j hjl
   have hce2 : Hid (celI l mi j = (ct : Int)) := Lib.hid hce
   unfold celI at hce
   generalize l.getD j psn0 = p at *
   obtain ⟨⟨s, t⟩, cs, x, y, z⟩ := p
   dsimp only at d0 d1 d2 d3 d4 d5 sc hce hml'
   obtain ⟨mc, hmc⟩ : ∃ m, cs.length = m := ⟨_, rfl⟩
   rw [hmc] at d2 hml'
   have hcn := Lib.hid hmc
   have hmcc : mc ≤ 9223372036854775807 := by have h1 := sc.capn; have h2 := sc.capm; rw [hmc] at h1; unfold maxLen at h2; omega
   obtain ⟨bc, oc, rfl, fc⟩ := sc.intsD hcn hml'
   have FC := Lib.hid (fc mi hml')
   rw [hce] at FC
   obtain ⟨bw, ow, rfl, fw⟩ := HSW.out.fxD hwm hjl
   obtain ⟨g6, a6, k6, c6, a7, k7, c7, hx, f6⟩ := fw j hjl
   have F6 := Lib.hid f6
   rw [fx_getD] at hx
   obtain ⟨φp, lp, ip, ep⟩ := (Inv.start hS.out.inv.fz).frz (.cells #[.string s, .string t, .slice (some ⟨bc, oc, none⟩) mc cc, .int .i64 x, .int .i64 y, .int .i64 z] 76)
   have hS1 := Lib.hid (hS.out.call ip)
   have LP := Lib.hid (hle.out.trans lp)
   have EP := Lib.hid ep
   have HX := Lib.hid ((hx.mono hS.out.inv.le).mono lp)
   have hmii : (mi : Int) < (mc : Int) := by omega
   have hcti : (ct : Int) < (nt : Int) := by omega
   have hstep := Lib.hid (prtX_step (N := N) (D := D) (ws := ws) hce2.out)
   have d9 : (wr.alloc (.cells #[.string s, .string t, .slice (some ⟨bc, oc, none⟩) mc cc, .int .i64 x, .int .i64 y, .int .i64 z] 76)).cell? ⟨bc, oc + mi, none⟩ = some (.int .i64 (ct : Int)) := (FC.out _ (hS1.out.inv.fz.sub hS1.out.inv.le)).2
   clear fp f2 hmc fc fw hx f6 ip ep lp hS hce hle
   go_upto_region 6 with fail
   generalize wr.alloc (.cells #[.string s, .string t, .slice (some ⟨bc, oc, none⟩) mc cc, .int .i64 x, .int .i64 y, .int .i64 z] 76) = wz at *
   generalize wr.heap.size = b5 at *
   clear d0 d1 d2 d3 d4 d5
   have HPd : Hid (PtS 62 70 w φ φp (some ⟨gh, 0, none⟩) nt hs nt (prtX N D ws l mi j) wz.drew) := Lib.hid (hS1.out.callB (bdrewN (Below.refl _ wz) 1))
   have hfz := Lib.hid (fun (W : World) (hs : Inv w.heap.size w φ φp W) => (F6.out W (hs.fz.sub hs.le) : W.cell? ⟨bw, ow + j * 3, none⟩ = some (.bool g6) ∧ W.cell? ⟨bw, ow + j * 3 + 1, none⟩ = some (.slice a6 k6 c6) ∧ W.cell? ⟨bw, ow + j * 3 + 2, none⟩ = some (.slice a7 k7 c7)))
   obtain ⟨gh', hgh', -, -, -, dh, -, -⟩ := HPd.out.oh.hdrD (Lib.hid HPd.out.hl) hct
   cases hgh'
   obtain ⟨orow, nrow⟩ := HPd.out.row ct hct
   obtain ⟨L, hL⟩ : ∃ L, (prtX N D ws l mi j ct).length = L := ⟨_, rfl⟩
   rw [hL] at nrow
   rw [nrow] at dh
   have HL := Lib.hid hL
   have HLN : Hid ((prtX N D ws l mi j ct ++ [(⟨ws.getD j 0⟩ : Fx N D)]).length = L + 1) := Lib.hid (by rw [List.length_append, hL]; rfl)
   have HPA := Lib.hid (HPd.out.alloc (.cells #[.bool g6, .slice a6 k6 c6, .slice a7 k7 c7] 70))
   have ORA := Lib.hid (HPA.out.row ct hct).1
   have dhA : (wz.drew.alloc (.cells #[.bool g6, .slice a6 k6 c6, .slice a7 k7 c7] 70)).cell? ⟨gh, ct, none⟩ = some (.slice (hs.getD ct hdr0).a L (hs.getD ct hdr0).c) := by
    obtain ⟨gh', hgh', -, -, -, q, -, -⟩ := HPA.out.oh.hdrD (Lib.hid HPA.out.hl) hct
    cases hgh'
    rw [nrow] at q
    exact q
   have dhB : (wz.alloc (.cells #[.bool g6, .slice a6 k6 c6, .slice a7 k7 c7] 70)).cell? ⟨gh, ct, none⟩ = some (.slice (hs.getD ct hdr0).a L (hs.getD ct hdr0).c) := dhA
   have hs0 := hfz.out wz.drew HPd.out.inv
   have hsA := hfz.out _ HPA.out.inv
   have hlen : Hid (L ≤ 3000) := Lib.hid (by
    rw [← hL]
    show ((prtL ws l mi (ct : Int) j).map _).length ≤ 3000
    rw [List.length_map]
    have := prtL_len (ws := ws) (l := l) (mi := mi) (k := j) (c := (ct : Int))
    omega)
   have HREP : Hid (Rep.rep φp (⟨ws.getD j 0⟩ : Fx N D) [.bool g6, .slice a6 k6 c6, .slice a7 k7 c7]) := Lib.hid ⟨g6, a6, k6, c6, a7, k7, c7, rfl, HX.out⟩
   have hput := Lib.hid (fun (a8 : Option Addr) (c8 n8 : Nat) (w8 : World) (l8 : List (Fx N D)) (hi : Inv w.heap.size w φ φp w8) (ho : Own w.heap.size φp w8 70 a8 c8 l8) (hn : n8 = l8.length) (hg : (wz.drew.alloc (.cells #[.bool g6, .slice a6 k6 c6, .slice a7 k7 c7] 70)).grownBy w8 ((hs.getD ct hdr0).a.map (·.block))) (hf : ∀ x, a8 = some x → (hs.getD ct hdr0).a.map (·.block) = some x.block ∨ (wz.drew.alloc (.cells #[.bool g6, .slice a6 k6 c6, .slice a7 k7 c7] 70)).heap.size ≤ x.block) => HPA.out.put hct hi ho hn hg hf)
   have hohw := Lib.hid (fun (w8 : World) (hg : (wz.drew.alloc (.cells #[.bool g6, .slice a6 k6 c6, .slice a7 k7 c7] 70)).grownBy w8 ((hs.getD ct hdr0).a.map (·.block))) => (HPA.out.ohw hct hg).hdrD (Lib.hid HPA.out.hl) hct)
   clear nrow orow hL
   apply wp_region_held_drew (S := fun W => W.cell? ⟨bw, ow + j * 3, none⟩ = some (.bool g6) ∧ W.cell? ⟨bw, ow + j * 3 + 1, none⟩ = some (.slice a6 k6 c6) ∧ W.cell? ⟨bw, ow + j * 3 + 2, none⟩ = some (.slice a7 k7 c7)) (by kernel_rfl)
   case hS => exact hs0
   case h =>
    intro hHeld
    refine' wpAnyH_take (i := 0) ?hi (by kernel_rfl) (by kernel_rfl) (by kernel_rfl) ?hQ (Or.inl ⟨?hw, ?hy⟩) (by assumption) ?rest
    case hi => exact List.getElem?_toArray.trans rfl
    case hQ => exact fun _ _ _ h => h
    case hw => rfl
    case hy => ((intro w hSw; (try dsimp only at hSw); go_simp) <;> with_reducible rfl)
    case rest =>
    try simp only [Act.put, List.setIfInBounds_toArray, List.set_cons_zero, List.set_cons_succ]
    refine' wpAnyH_take (i := 1) ?hi (by kernel_rfl) (by kernel_rfl) (by kernel_rfl) ?hQ (Or.inl ⟨?hw, ?hy⟩) (by assumption) ?rest
    case hi => exact List.getElem?_toArray.trans rfl
    case hQ => exact fun _ _ _ h => h
    case hw => rfl
    case hy => ((intro w hSw; (try dsimp only at hSw); go_simp) <;> with_reducible rfl)
    case rest =>
    try simp only [Act.put, List.setIfInBounds_toArray, List.set_cons_zero, List.set_cons_succ]
    refine' wpAnyH_take (i := 2) ?hi (by kernel_rfl) (by kernel_rfl) (by kernel_rfl) ?hQ (Or.inl ⟨?hw, ?hy⟩) (by assumption) ?rest
    case hi => exact List.getElem?_toArray.trans rfl
    case hQ => exact fun _ _ _ h => h
    case hw => rfl
    case hy => ((intro w hSw; (try dsimp only at hSw); go_simp) <;> with_reducible rfl)
    case rest =>
    try simp only [Act.put, List.setIfInBounds_toArray, List.set_cons_zero, List.set_cons_succ]
    refine' wpAnyH_take (i := 3) ?hi (by kernel_rfl) (by kernel_rfl) (by kernel_rfl) ?hQ (Or.inl ⟨?hw, ?hy⟩) (by assumption) ?rest
    case hi => exact List.getElem?_toArray.trans rfl
    case hQ => exact fun _ _ _ h => h
    case hw => rfl
    case hy => ((intro w hSw; (try dsimp only at hSw); go_simp) <;> with_reducible rfl)
    case rest =>
    try simp only [Act.put, List.setIfInBounds_toArray, List.set_cons_zero, List.set_cons_succ]
    refine' wpAnyH_take (i := 4) ?hi (by kernel_rfl) (by kernel_rfl) (by kernel_rfl) ?hQ (Or.inl ⟨?hw, ?hy⟩) (by assumption) ?rest
    case hi => exact List.getElem?_toArray.trans rfl
    case hQ => exact fun _ _ _ h => h
    case hw => rfl
    case hy => ((intro w hSw; (try dsimp only at hSw); go_simp) <;> with_reducible rfl)
    case rest =>
    try simp only [Act.put, List.setIfInBounds_toArray, List.set_cons_zero, List.set_cons_succ]
    refine' wpAnyH_take (i := 6) ?hi (by kernel_rfl) (by kernel_rfl) (by kernel_rfl) ?hQ (Or.inl ⟨?hw, ?hy⟩) (by assumption) ?rest
    case hi => exact List.getElem?_toArray.trans rfl
    case hQ => exact fun _ _ _ h => h
    case hw => rfl
    case hy => ((intro w hSw; (try dsimp only at hSw); go_simp) <;> with_reducible rfl)
    case rest =>
    try simp only [Act.put, List.setIfInBounds_toArray, List.set_cons_zero, List.set_cons_succ]
    refine' wpAnyH_take (i := 7) ?hi (by kernel_rfl) (by kernel_rfl) (by kernel_rfl) ?hQ (Or.inl ⟨?hw, ?hy⟩) (by assumption) ?rest
    case hi => exact List.getElem?_toArray.trans rfl
    case hQ => exact fun _ _ _ h => h
    case hw => rfl
    case hy => ((intro w hSw; (try dsimp only at hSw); go_simp) <;> with_reducible rfl)
    case rest =>
    try simp only [Act.put, List.setIfInBounds_toArray, List.set_cons_zero, List.set_cons_succ]
    refine' wpAnyH_take (i := 8) ?hi (by kernel_rfl) (by kernel_rfl) (by kernel_rfl) ?hQ (Or.inl ⟨?hw, ?hy⟩) (by assumption) ?rest
    case hi => exact List.getElem?_toArray.trans rfl
    case hQ => exact fun _ _ _ h => h
    case hw => rfl
    case hy => ((intro w hSw; (try dsimp only at hSw); go_simp) <;> with_reducible rfl)
    case rest =>
    try simp only [Act.put, List.setIfInBounds_toArray, List.set_cons_zero, List.set_cons_succ]
    refine' wpAnyH_take (i := 9) ?hi (by kernel_rfl) (by kernel_rfl) (by kernel_rfl) ?hQ (Or.inl ⟨?hw, ?hy⟩) (by assumption) ?rest
    case hi => exact List.getElem?_toArray.trans rfl
    case hQ => exact fun _ _ _ h => h
    case hw => rfl
    case hy => ((intro w hSw; (try dsimp only at hSw); go_simp) <;> with_reducible rfl)
    case rest =>
    try simp only [Act.put, List.setIfInBounds_toArray, List.set_cons_zero, List.set_cons_succ]
    refine wpAnyH_ready (rs := [5, 10]) (by kernel_rfl) (by simp) ?_
    refine' AllReadyH.cons ?ho (fun K hK => ?st) (AllReadyH.cons ?ho2 (fun K hK => ?st2) AllReadyH.nil)
    case ho => exact List.getElem?_toArray.trans rfl
    case ho2 => exact List.getElem?_toArray.trans rfl
    case st =>
     go_simp
     refine hK.out _ _ ?hSS (fun hHeld => ?hRR)
     case hSS => first | exact hs0 | exact hsA
     case hRR =>
     clear hK K
     try simp only [Act.put, List.setIfInBounds_toArray, List.set_cons_zero, List.set_cons_succ]
     refine wpAnyH_ready (rs := [10]) (by kernel_rfl) (by simp) ?_
     refine' AllReadyH.cons ?ho (fun K hK => ?st) AllReadyH.nil
     case ho => exact List.getElem?_toArray.trans rfl
     case st =>
     go_simp
     refine hK.out _ _ ?hSS (fun hHeld => ?hRR)
     case hSS => exact hsA
     case hRR =>
     clear hK K
     try simp only [Act.put, List.setIfInBounds_toArray, List.set_cons_zero, List.set_cons_succ]
     refine wpAnyH_ready (rs := [11]) (by kernel_rfl) (by simp) ?_
     refine' AllReadyH.cons ?ho (fun K hK => ?st) AllReadyH.nil
     case ho => exact List.getElem?_toArray.trans rfl
     case st =>
     refine step_appF (α := Fx N D) (by rfl) _ _ _ (by rfl) (slFx N D) HPA.out.inv _ _ (prtX N D ws l mi j ct) (by rw [HL.out]; rfl) ORA.out ⟨wz.heap.size, 0, none⟩ 1 [⟨ws.getD j 0⟩] [.bool g6, .slice a6 k6 c6, .slice a7 k7 c7] 1 (by rfl) (by rfl) (RepL.single HREP.out) (new_cells wz.drew #[.bool g6, .slice a6 k6 c6, .slice a7 k7 c7] 70) (by have := hlen.out; rw [HL.out]; show (L + 1) * 56 ≤ 140737488355328; omega) ?_
     intro a8 c8 w8 hi8 ho8 hg8 hf8
     rw [HLN.out]
     have hs8 := hfz.out w8 hi8
     refine hK.out _ _ ?hSS (fun hHeld => ?hRR)
     case hSS => exact hs8
     case hRR =>
     clear hK K
     try simp only [Act.put, List.setIfInBounds_toArray, List.set_cons_zero, List.set_cons_succ]
     refine' wpAnyH_take (i := 12) ?hi (by kernel_rfl) (by kernel_rfl) (by kernel_rfl) ?hQ (Or.inl ⟨?hw, ?hy⟩) (by assumption) ?rest
     case hi => exact List.getElem?_toArray.trans rfl
     case hQ => exact fun _ _ _ h => h
     case hw => rfl
     case hy => ((intro w hSw; (try dsimp only at hSw); go_simp) <;> with_reducible rfl)
     case rest =>
     try simp only [Act.put, List.setIfInBounds_toArray, List.set_cons_zero, List.set_cons_succ]
     obtain ⟨gh', hgh', -, -, -, dh8, fh8, -⟩ := hohw.out w8 hg8
     cases hgh'
     have HP8 := Lib.hid (hput.out a8 c8 (L + 1) w8 _ hi8 ho8 HLN.out.symm hg8 hf8)
     clear hi8 ho8 hg8 hf8 hput hohw dh dhA dhB hs0 hsA
     refine wpAnyH_ready (rs := [13]) (by kernel_rfl) (by simp) ?_
     refine' AllReadyH.cons ?ho (fun K hK => ?st) AllReadyH.nil
     case ho => exact List.getElem?_toArray.trans rfl
     case st =>
     go_simp
     refine hK.out _ _ ?hSS (fun hHeld => ?hRR)
     case hSS => exact hfz.out _ HP8.out.inv
     case hRR =>
     clear hK K
     try simp only [Act.put, List.setIfInBounds_toArray, List.set_cons_zero, List.set_cons_succ]
     refine wpAnyH_done (by kernel_rfl) ?_ _
     have HPN : Hid (PtS 62 70 w φ φp (some ⟨gh, 0, none⟩) nt _ nt (prtX N D ws l mi (j + 1)) _) := Lib.hid (HP8.out.congr (fun e _ => hstep.out e))
     clear dh8 fh8 HP8 hs8
     go_wp2
     go_roundw
     case rel => exact ⟨j + 1, _, φp, by omega, by go_num, LP, HPN⟩
     case measure => (simp [intOf] <;> omega)
    case st2 =>
     go_simp
     refine hK.out _ _ ?hSS (fun hHeld => ?hRR)
     case hSS => exact hsA
     case hRR =>
     clear hK K
     try simp only [Act.put, List.setIfInBounds_toArray, List.set_cons_zero, List.set_cons_succ]
     refine wpAnyH_ready (rs := [5]) (by kernel_rfl) (by simp) ?_
     refine' AllReadyH.cons ?ho (fun K hK => ?st) AllReadyH.nil
     case ho => exact List.getElem?_toArray.trans rfl
     case st =>
     go_simp
     refine hK.out _ _ ?hSS (fun hHeld => ?hRR)
     case hSS => first | exact hs0 | exact hsA
     case hRR =>
     clear hK K
     try simp only [Act.put, List.setIfInBounds_toArray, List.set_cons_zero, List.set_cons_succ]
     refine wpAnyH_ready (rs := [11]) (by kernel_rfl) (by simp) ?_
     refine' AllReadyH.cons ?ho (fun K hK => ?st) AllReadyH.nil
     case ho => exact List.getElem?_toArray.trans rfl
     case st =>
     refine step_appF (α := Fx N D) (by rfl) _ _ _ (by rfl) (slFx N D) HPA.out.inv _ _ (prtX N D ws l mi j ct) (by rw [HL.out]; rfl) ORA.out ⟨wz.heap.size, 0, none⟩ 1 [⟨ws.getD j 0⟩] [.bool g6, .slice a6 k6 c6, .slice a7 k7 c7] 1 (by rfl) (by rfl) (RepL.single HREP.out) (new_cells wz.drew #[.bool g6, .slice a6 k6 c6, .slice a7 k7 c7] 70) (by have := hlen.out; rw [HL.out]; show (L + 1) * 56 ≤ 140737488355328; omega) ?_
     intro a8 c8 w8 hi8 ho8 hg8 hf8
     rw [HLN.out]
     have hs8 := hfz.out w8 hi8
     refine hK.out _ _ ?hSS (fun hHeld => ?hRR)
     case hSS => exact hs8
     case hRR =>
     clear hK K
     try simp only [Act.put, List.setIfInBounds_toArray, List.set_cons_zero, List.set_cons_succ]
     refine' wpAnyH_take (i := 12) ?hi (by kernel_rfl) (by kernel_rfl) (by kernel_rfl) ?hQ (Or.inl ⟨?hw, ?hy⟩) (by assumption) ?rest
     case hi => exact List.getElem?_toArray.trans rfl
     case hQ => exact fun _ _ _ h => h
     case hw => rfl
     case hy => ((intro w hSw; (try dsimp only at hSw); go_simp) <;> with_reducible rfl)
     case rest =>
     try simp only [Act.put, List.setIfInBounds_toArray, List.set_cons_zero, List.set_cons_succ]
     obtain ⟨gh', hgh', -, -, -, dh8, fh8, -⟩ := hohw.out w8 hg8
     cases hgh'
     have HP8 := Lib.hid (hput.out a8 c8 (L + 1) w8 _ hi8 ho8 HLN.out.symm hg8 hf8)
     clear hi8 ho8 hg8 hf8 hput hohw dh dhA dhB hs0 hsA
     refine wpAnyH_ready (rs := [13]) (by kernel_rfl) (by simp) ?_
     refine' AllReadyH.cons ?ho (fun K hK => ?st) AllReadyH.nil
     case ho => exact List.getElem?_toArray.trans rfl
     case st =>
     go_simp
     refine hK.out _ _ ?hSS (fun hHeld => ?hRR)
     case hSS => exact hfz.out _ HP8.out.inv
     case hRR =>
     clear hK K
     try simp only [Act.put, List.setIfInBounds_toArray, List.set_cons_zero, List.set_cons_succ]
     refine wpAnyH_done (by kernel_rfl) ?_ _
     have HPN : Hid (PtS 62 70 w φ φp (some ⟨gh, 0, none⟩) nt _ nt (prtX N D ws l mi (j + 1)) _) := Lib.hid (HP8.out.congr (fun e _ => hstep.out e))
     clear dh8 fh8 HP8 hs8
     go_wp2
     go_roundw
     case rel => exact ⟨j + 1, _, φp, by omega, by go_num, LP, HPN⟩
     case measure => (simp [intOf] <;> omega)
  ·obtain rfl : j = n := by omega
   obtain ⟨φ2, l2, i2, s2⟩ := hS.out.rel
   have HI2 := Lib.hid i2
   have HS2 := Lib.hid s2
   have HL2 := Lib.hid (hle.out.trans l2)
   have hlen : Hid (((List.range nt).map (prtX N D ws l mi j)).length = nt) := Lib.hid (by simp)
   have hS3 : Hid (OwG w φ φ2 70 none 0 ([] : List (Fx NB DB)) wr) := Lib.hid ⟨i2, Own.nil _ _ _ _⟩
   clear hS hle i2 s2 l2
   go_wp2
   go_loopw [13, 51] (fun ov iv wr => ∃ (k : Nat) (ao : Option Addr) (co : Nat) (os : List (Fx NB DB)) (φ' : Phi), k ≤ nt ∧ iv = .int .i64 (k : Int) ∧ ov = .slice ao k co ∧ Hid (os.length = k) ∧ Hid (os = (celR ws l mi k j).map Fx.mk) ∧ Hid (φ2.le φ') ∧ Hid (OwG w φ φ' 70 ao co os wr)) (fun _ iv _ => nt - (intOf iv).toNat)
   case atStart => exact ⟨0, none, 0, [], φ2, Nat.zero_le _, rfl, rfl, Lib.hid rfl, Lib.hid rfl, Lib.hid φ2.le_refl, hS3⟩
   case round =>
    clear hS3
    obtain ⟨k, ao, co, os, φ', hk, rfl, rfl, hol, hL, hle, hS⟩ := hrel
    by_cases hlt : k < nt
    ·have hlti : (k : Int) < (nt : Int) := by omega
     obtain ⟨b, off, hbo, f⟩ := HS2.out.listX hlen hlt
     obtain ⟨ar, cr, sc, f2⟩ := f k hlt
     have d0 := f2 wr (hS.out.inv.fz.sub hle.out)
     cases hbo
     rw [Nat.zero_add] at d0
     have hgd : ((List.range nt).map (prtX N D ws l mi j)).getD k [] = prtX N D ws l mi j k := by simp [hlt]
     rw [hgd] at sc d0
     obtain ⟨L, hL9⟩ : ∃ L, (prtL ws l mi (k : Int) j).length = L := ⟨_, rfl⟩
     have hLj : L ≤ j := by rw [← hL9]; exact prtL_len
     rw [show (prtX N D ws l mi j k).length = L from by rw [← hL9]; exact List.length_map ..] at d0
     obtain ⟨⟨e1, e2⟩, e3, e4⟩ := hbd.out L hLj
     rw [hNB.out] at e3
     rw [hDB.out] at e4
     have hC := Lib.hid (fun (ψ : Phi) W (hf : Fz ψ W) (hs : SlV ψ ar cr (prtX N D ws l mi j k)) => SumOf_any hD hM hD1 e1 e2 hf hs (Lib.hid hL9) (Lib.hid (prtL_sum (ws := ws) (l := l) (mi := mi) (k := j) (c := (k : Int)))))
     have HE := Lib.hid (And.intro e3 e4)
     have HSC := Lib.hid (sc.mono hle.out)
     have hnx : Hid (os ++ [⟨celQ (fun j => ws.getD j 0) l mi (k : Int) j⟩] = (celR ws l mi (k + 1) j).map Fx.mk) := Lib.hid (by
      rw [hL.out]
      unfold celR
      rw [List.range_succ, List.map_append, List.map_append]; rfl)
     clear f f2 sc hgd e1 e2 e3 e4 hL9
     go_wp2_with (first
      | (go_at_call 59; (with_reducible refine (hC.out φ' _ hS.out.inv.fz HSC.out).mono ?_); rintro e w4 ⟨v4, φ4, rfl, hi4, hv4⟩; have hv5 := hv4.le HE.out.1 HE.out.2; obtain ⟨g, a1, k1, c1, a2, k2, c2, rfl, hrep⟩ := hv5.fx; have hS4 := Lib.hid (hS.out.call hi4); have hin := Lib.hid hS4.out.inv; have hon := Lib.hid hS4.out.own; have HREP := Lib.hid hrep; have HL4 := Lib.hid (hle.out.trans hi4.le); clear hi4 hv4 hv5 hrep)
      | (at_builtin; (refine wpList_app1F (α := Fx NB DB) rfl _ _ 62 rfl (slFx _ _) hin.out ao co os hon.out #[.bool g, .slice a1 k1 c1, .slice a2 k2 c2] 70 ⟨celQ (fun j => ws.getD j 0) l mi (k : Int) j⟩ HREP.out (by rw [hol.out]; rfl) 1 rfl (by rw [hol.out]; omega) ?_; intro a9 c9 w9 hi9 ho9 hg9 hf9; rw [show (os ++ [(⟨celQ (fun j => ws.getD j 0) l mi (k : Int) j⟩ : Fx NB DB)]).length = k + 1 from by rw [List.length_append, hol.out]; rfl])))
     go_roundw
     case rel => exact ⟨k + 1, a9, c9, os ++ [⟨celQ (fun j => ws.getD j 0) l mi (k : Int) j⟩], φ4, by omega, by go_num, rfl, Lib.hid (by rw [List.length_append, hol.out]; rfl), hnx, HL4, Lib.hid ⟨hi9, ho9⟩⟩
     case measure => (simp [intOf] <;> omega)
    ·obtain rfl : k = nt := by omega
     obtain ⟨φ3, hl3, hi3, hs3, _⟩ := hS.out.own.release hS.out.inv
     rw [hL.out] at hs3
     have HI3 := Lib.hid hi3
     have HS3 := Lib.hid hs3
     have hlen3 : Hid (((celR ws l mi k j).map (Fx.mk (N := NB) (D := DB))).length = k) := Lib.hid (by simp [celR])
     clear hi3 hs3 hS hl3 hL
     go_wp2
     go_ret
     exact ⟨ao, co, φ3, (by rw [hlen3.out]; rfl), HI3.out, HS3.out⟩
end Go.Proofs.YtmlpjffnmkndoaaGreatDoor
