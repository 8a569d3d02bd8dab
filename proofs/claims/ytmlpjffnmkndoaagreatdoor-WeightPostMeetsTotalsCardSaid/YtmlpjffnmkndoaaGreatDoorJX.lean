/- The state of a call with a slice of its own and two boxes; the bounds of answers. Two maps of slices of exact numbers that a call makes, beside a slice of its own; maps of slices that are frozen. Rows of numbers of the call's own, cell by cell; weights as a row of the call's own. Conditions: none beyond what the claim form gives. -/
import Derived.Test.YtmlpjffnmkndoaaGreatDoorJZ
import Derived.Test.YtmlpjffnmkndoaaGreatDoorJA
import Derived.Test.YtmlpjffnmkndoaaGreatDoorJP
import Derived.Test.YtmlpjffnmkndoaaGreatDoorLB
namespace Go.Proofs.YtmlpjffnmkndoaaGreatDoor
open Go.RowKit
set_option linter.unusedVariables false
set_option linter.unusedSimpArgs false
structure RpB (M N D n : Nat) : Prop where
  c1 : n * N * D ^ n ≤ M
  c2 : D ^ n ≤ M
  c3 : N * (n * N * D ^ n) ≤ M
  c4 : D * D ^ n ≤ M
  c5 : N ≤ M
  c6 : N * (n * N * D ^ n) * D ^ n ≤ M
  c7 : D * D ^ n * (n * N * D ^ n) ≤ M
  c8 : n * N * D ^ n * D ^ n ≤ M
  c9 : N * (n * N * D ^ n * D ^ n) ≤ M
  c10 : D * (D ^ n * (n * N * D ^ n)) ≤ M
  c11 : D ^ n * (n * N * D ^ n) ≤ M
theorem Own.frz {α : Type} [Rep α] {B : Nat} {φ φ' : Phi} {w : World} {E : TypeId} {a : Option Addr} {cap : Nat} {xs : List α} (h : Own B φ w E a cap xs) (hl : φ.le φ') (hq : ∀ x, a = some x → φ' x.block = φ x.block) : Own B φ' w E a cap xs := by
  obtain ⟨cells, h1, hr⟩ := h.row
  exact ⟨⟨cells, h1, hr.mono hl⟩, fun x hx => by rw [hq x hx]; exact h.free x hx⟩
theorem OwG.set {α : Type} [Rep α] {w0 wr : World} {φ0 φ : Phi} {E : TypeId} {ao : Option Addr} {co : Nat} {out : List α} (h : OwG w0 φ0 φ E ao co out wr) {g off : Nat} (hg : w0.heap.size ≤ g) (hφ : φ g = none) (ha : ∀ x, ao = some x → x.block ≠ g) (u : Value) : OwG w0 φ0 φ E ao co out (wr.setCell ⟨g, off, none⟩ u) :=
  ⟨h.inv.setCell hg hφ u, h.own.other (row := some g) ⟨rfl, rfl, rfl, by simp [World.setCell], fun k _ hk => Below.heap_setCell _ _ _ _ (by intro e; exact hk (by rw [e]))⟩ (fun x hx e => ha x hx (by cases e; rfl))⟩
/-- A slice of the call's own, and two boxes. -/
structure RpS {α : Type} [Rep α] (E E2 : TypeId) (w0 : World) (φ0 φ : Phi) (ao : Option Addr) (co : Nat) (os : List α) (b1 : Nat) (cs1 : Array Value) (b2 : Nat) (cs2 : Array Value) (W : World) : Prop where
  g : OwG w0 φ0 φ E2 ao co os W
  a : RsSt w0 φ0 φ b1 cs1 E W
  o : RsSt w0 φ0 φ b2 cs2 E W
  n : b1 ≠ b2
  d : ∀ x, ao = some x → x.block ≠ b1 ∧ x.block ≠ b2
section
variable {α : Type} [Rep α] {E E2 : TypeId} {w0 W w' : World} {φ0 φ φ' : Phi} {ao : Option Addr} {co : Nat} {os : List α} {b1 b2 : Nat} {cs1 cs2 : Array Value}
theorem RpS.call (h : RpS E E2 w0 φ0 φ ao co os b1 cs1 b2 cs2 W) (hi : Inv W.heap.size W φ φ' w') : RpS E E2 w0 φ0 φ' ao co os b1 cs1 b2 cs2 w' := ⟨h.g.call hi, h.a.call hi, h.o.call hi, h.n, h.d⟩
theorem RpS.callB (h : RpS E E2 w0 φ0 φ ao co os b1 cs1 b2 cs2 W) (hb : Below W.heap.size W w') : RpS E E2 w0 φ0 φ ao co os b1 cs1 b2 cs2 w' := ⟨h.g.callB hb, h.a.callB hb, h.o.callB hb, h.n, h.d⟩
theorem RpS.drew (h : RpS E E2 w0 φ0 φ ao co os b1 cs1 b2 cs2 W) : RpS E E2 w0 φ0 φ ao co os b1 cs1 b2 cs2 W.drew := h.callB (bdrewN (Below.refl _ W) 1)
theorem RpS.set1 (h : RpS E E2 w0 φ0 φ ao co os b1 cs1 b2 cs2 W) (j : Nat) (u : Value) : RpS E E2 w0 φ0 φ ao co os b1 (cs1.setIfInBounds j u) b2 cs2 (W.setCell ⟨b1, j, none⟩ u) := ⟨h.g.set h.a.l h.a.f (fun x hx => (h.d x hx).1) u, h.a.set j u, h.o.oth h.a h.n j u, h.n, h.d⟩
theorem RpS.set2 (h : RpS E E2 w0 φ0 φ ao co os b1 cs1 b2 cs2 W) (j : Nat) (u : Value) : RpS E E2 w0 φ0 φ ao co os b1 cs1 b2 (cs2.setIfInBounds j u) (W.setCell ⟨b2, j, none⟩ u) := ⟨h.g.set h.o.l h.o.f (fun x hx => (h.d x hx).2) u, h.a.oth h.o (Ne.symm h.n) j u, h.o.set j u, h.n, h.d⟩
theorem RpS.new (h : OwG w0 φ0 φ E2 ao co os W) (cs1 cs2 : Array Value) : RpS E E2 w0 φ0 φ ao co os W.heap.size cs1 (W.heap.size + 1) cs2 ((W.alloc (.cells cs1 E)).alloc (.cells cs2 E)) := by
  have a := RsSt.start h.inv cs1 E
  have o := RsSt.start a.inv cs2 E
  rw [alloc_sz] at o
  exact ⟨(h.alloc _).alloc _, a.callB ((Below.refl _ _).alloc (Nat.le_refl _) _), o, by omega, fun x hx => by have := (h.own.lt x hx).2; omega⟩
theorem RpS.put1 {c0 c1 c2 : Value} (h : RpS E E2 w0 φ0 φ ao co os b1 #[c0, c1, c2] b2 cs2 W) (u0 u1 u2 : Value) : RpS E E2 w0 φ0 φ ao co os b1 #[u0, u1, u2] b2 cs2 (((W.setCell ⟨b1, 0, none⟩ u0).setCell ⟨b1, 1, none⟩ u1).setCell ⟨b1, 2, none⟩ u2) := ((h.set1 0 u0).set1 1 u1).set1 2 u2
theorem RpS.put2 {c0 c1 c2 : Value} (h : RpS E E2 w0 φ0 φ ao co os b1 cs1 b2 #[c0, c1, c2] W) (u0 u1 u2 : Value) : RpS E E2 w0 φ0 φ ao co os b1 cs1 b2 #[u0, u1, u2] (((W.setCell ⟨b2, 0, none⟩ u0).setCell ⟨b2, 1, none⟩ u1).setCell ⟨b2, 2, none⟩ u2) := ((h.set2 0 u0).set2 1 u1).set2 2 u2
/-- Both boxes frozen. -/
theorem RpS.frz (h : RpS E E2 w0 φ0 φ ao co os b1 cs1 b2 cs2 W) : ∃ φ', φ.le φ' ∧ OwG w0 φ0 φ' E2 ao co os W ∧ φ' b1 = some (.cells cs1 E) ∧ φ' b2 = some (.cells cs2 E) := by
  obtain ⟨φ1, l1, i1, e1, f1⟩ := h.a.inv.frzAt h.a.k h.a.l
  obtain ⟨φ2, l2, i2, e2, f2⟩ := i1.frzAt h.o.k h.o.l
  refine ⟨φ2, l1.trans l2, ⟨i2, ?_⟩, l2 _ _ e1, e2⟩
  exact h.g.own.frz (l1.trans l2) (fun x hx => by rw [f2 _ (h.d x hx).2, f1 _ (h.d x hx).1])
end
theorem SlV.boolsV {φ : Phi} {a : Option Addr} {cap : Nat} {xs : List Bool} (h : SlV φ a cap xs) {k n : Nat} (hn : Hid (xs.length = n)) (hk : k < n) :
    ∃ b off, a = some ⟨b, off, none⟩ ∧ ∀ k, k < n → ∀ w, Fz φ w → w.cell? ⟨b, off + k, none⟩ = some (.bool (xs.getD k false)) := by
  obtain ⟨b, off, ha, hc⟩ := h.cellsD false hn hk
  refine ⟨b, off, ha, fun k hk w hw => ?_⟩
  obtain ⟨cs, h1, hj⟩ := hc k hk
  cases h1
  have j0 := hj 0 (by simp)
  simp [Rep.size] at j0
  exact hw.cell j0
end Go.Proofs.YtmlpjffnmkndoaaGreatDoor

namespace Go.Proofs.YtmlpjffnmkndoaaGreatDoor
open Go.RowKit
set_option linter.unusedVariables false
set_option linter.unusedSimpArgs false
def rowsB {κ : Type} (hd : κ → Option Hdr) (b : Nat) : Prop := ∃ k h x, hd k = some h ∧ h.a = some x ∧ x.block = b
def rowB (a : Option Addr) (b : Nat) : Prop := ∃ x, a = some x ∧ x.block = b
/-- A slice of the call's own, and two maps of slices of the call's own. -/
structure Rg2 {α β : Type} [Rep α] [Rep β] (E : TypeId) (w0 : World) (φ0 φ : Phi) (aw : Option Addr) (cw : Nat) (ws : List β) (r1 : Nat) (hd1 : Int → Option Hdr) (f1 : Int → List α) (r2 : Nat) (hd2 : Int → Option Hdr) (f2 : Int → List α) (W : World) : Prop where
  own : OwG w0 φ0 φ E aw cw ws W
  g1 : GrpW E w0.heap.size φ W r1 (fun b => b = r2 ∨ rowB aw b ∨ rowsB hd2 b) hd1 f1
  g2 : GrpW E w0.heap.size φ W r2 (fun b => b = r1 ∨ rowB aw b ∨ rowsB hd1 b) hd2 f2
  ne : r1 ≠ r2
  nw : ∀ b, rowB aw b → b ≠ r1 ∧ b ≠ r2
section
variable {α β : Type} [Rep α] [Rep β] {E : TypeId} {w0 W w' : World} {φ0 φ φ' : Phi} {aw : Option Addr} {cw : Nat} {ws : List β} {r1 r2 : Nat} {hd1 hd2 : Int → Option Hdr} {f1 f2 : Int → List α}
theorem Rg2.call (h : Rg2 E w0 φ0 φ aw cw ws r1 hd1 f1 r2 hd2 f2 W) (hi : Inv W.heap.size W φ φ' w') : Rg2 E w0 φ0 φ' aw cw ws r1 hd1 f1 r2 hd2 f2 w' := ⟨h.own.call hi, h.g1.call hi, h.g2.call hi, h.ne, h.nw⟩
theorem Rg2.callB (h : Rg2 E w0 φ0 φ aw cw ws r1 hd1 f1 r2 hd2 f2 W) (hb : Below W.heap.size W w') : Rg2 E w0 φ0 φ aw cw ws r1 hd1 f1 r2 hd2 f2 w' := ⟨h.own.callB hb, h.g1.callB hb, h.g2.callB hb, h.ne, h.nw⟩
theorem Rg2.drew (h : Rg2 E w0 φ0 φ aw cw ws r1 hd1 f1 r2 hd2 f2 W) : Rg2 E w0 φ0 φ aw cw ws r1 hd1 f1 r2 hd2 f2 W.drew := h.callB (bdrewN (Below.refl _ W) 1)
theorem Rg2.swap (h : Rg2 E w0 φ0 φ aw cw ws r1 hd1 f1 r2 hd2 f2 W) : Rg2 E w0 φ0 φ aw cw ws r2 hd2 f2 r1 hd1 f1 W := ⟨h.own, h.g2, h.g1, Ne.symm h.ne, fun b hb => ⟨(h.nw b hb).2, (h.nw b hb).1⟩⟩
theorem Rg2.start (hi : Inv w0.heap.size w0 φ0 φ W) (hc : Inv ((W.alloc (.map #[] 0)).alloc (.map #[] 0)).heap.size ((W.alloc (.map #[] 0)).alloc (.map #[] 0)) φ φ' w') (ho : Own ((W.alloc (.map #[] 0)).alloc (.map #[] 0)).heap.size φ' w' E aw cw ws) : Rg2 (α := α) E w0 φ0 φ' aw cw ws W.heap.size (fun _ => none) (fun _ => []) (W.heap.size + 1) (fun _ => none) (fun _ => []) w' := by
  have hsz : (W.alloc (.map #[] 0)).heap.size = W.heap.size + 1 := by simp
  have hsz2 : ((W.alloc (.map #[] 0)).alloc (.map #[] 0)).heap.size = W.heap.size + 1 + 1 := by simp
  have hB := hi.size
  have g1 := (GrpW.new (E := E) (κ := Int) (α := α) (Rv := fun _ => True) hi).callB ((Below.refl _ _).alloc (Nat.le_refl _) (.map #[] 0))
  have g2 := GrpW.new (E := E) (κ := Int) (α := α) (Rv := fun _ => True) (hi.alloc (.map #[] 0))
  rw [hsz] at g2
  refine ⟨⟨((hi.alloc _).alloc _).call hc, ho.base (by rw [hsz2]; omega)⟩, (g1.call hc).rv (fun _ _ _ => trivial), (g2.call hc).rv (fun _ _ _ => trivial), by omega, fun b hb => ?_⟩
  obtain ⟨x, hx, rfl⟩ := hb
  have := (ho.lt x hx).1
  rw [hsz2] at this
  exact ⟨by omega, by omega⟩
/-- A key's list in the first map has grown. -/
theorem Rg2.put (h : Rg2 E w0 φ0 φ aw cw ws r1 hd1 f1 r2 hd2 f2 W) {P : Program} {T kt et : TypeId} (ht : P.underlying T = some (.map kt et)) (hk : P.underlying kt = some (Key.d Int)) {k : Int} {a : Option Addr} {c : Nat} (hh : hd1 k = some ⟨a, (f1 k).length, c⟩ ∨ (hd1 k = none ∧ a = none ∧ c = 0)) {a' : Option Addr} {c' : Nat} {l : List α} {n : Nat} (hn : l.length = n) (hi : Inv w0.heap.size w0 φ0 φ w') (ho : Own w0.heap.size φ w' E a' c' l) (hg : W.grownBy w' (a.map (·.block))) (hf : ∀ x, a' = some x → a.map (·.block) = some x.block ∨ W.heap.size ≤ x.block) :
    ∃ o, (∀ V, V.heap[r1]? = W.heap[r1]? → (Instr.mapUpdate T (.map (some r1)) (.int .i64 k) (.slice a' n c')).run P V = .ok () (setMap V r1 o)) ∧ Rg2 E w0 φ0 φ aw cw ws r1 (updK hd1 k (some ⟨a', n, c'⟩)) (updK f1 k l) r2 hd2 f2 (setMap w' r1 o) ∧ Own w0.heap.size φ w' E aw cw ws ∧ w'.heap[r1]? = W.heap[r1]? := by
  have hlr1 := h.g1.lt
  have hlr2 := h.g2.lt
  have hrv : ∀ b, (b = r2 ∨ rowB aw b ∨ rowsB hd2 b) → b < W.heap.size := by
    intro b hb
    rcases hb with rfl | ⟨x, hx, rfl⟩ | ⟨k', h', x, hk', hx, rfl⟩
    · exact hlr2
    · exact (h.own.own.lt x hx).2
    · exact ((h.g2.row k' h' hk').1.lt x hx).2
  obtain ⟨o, h1, h2⟩ := h.g1.put ht hk hh hn ho hg hf hrv
  have hrow : ∀ b, a.map (·.block) = some b → b ≠ r1 ∧ ¬ (b = r2 ∨ rowB aw b ∨ rowsB hd2 b) ∧ rowsB hd1 b := by
    intro b hb
    rcases hh with hh | ⟨_, e, _⟩
    · cases a with
      | none => cases hb
      | some x =>
        have e : x.block = b := by simpa using hb
        rw [← e]
        have := h.g1.nm k _ x hh rfl
        exact ⟨this.1, this.2, k, _, x, hh, rfl, rfl⟩
    · rw [e] at hb; cases hb
  have hset := setMap_grown w' r1 o
  have hown1 : Own w0.heap.size φ w' E aw cw ws := h.own.own.other hg (fun x hx e => (hrow x.block e.symm).2.1 (.inr (.inl ⟨x, hx, rfl⟩)))
  have hown : Own w0.heap.size φ (setMap w' r1 o) E aw cw ws := hown1.other hset (fun x hx e => (h.nw x.block ⟨x, hx, rfl⟩).1 (Option.some.inj e))
  have g2a := h.g2.rv (Rv' := fun b => (b = r1 ∨ rowB aw b ∨ rowsB hd1 b) ∨ rowsB (updK hd1 k (some ⟨a', n, c'⟩)) b) (fun b hb hv => by
    rcases hv with hv | ⟨k', h', x, hk', hx, rfl⟩
    · exact hv
    · unfold updK at hk'
      split at hk'
      · cases hk'
        rcases hf x hx with q | q
        · exact .inr (.inr (hrow _ q).2.2)
        · omega
      · exact .inr (.inr ⟨k', h', x, hk', hx, rfl⟩))
  have g2b := (g2a.other hg (fun e => (hrow r2 e).2.1 (.inl rfl)) (fun b hb => .inl (.inr (.inr (hrow b hb).2.2)))).other hset (fun e => h.ne (Option.some.inj e)) (fun b hb => .inl (.inl (Option.some.inj hb).symm))
  refine ⟨o, h1, ⟨⟨hi.write h.g1.lo h.g1.fr hset, hown⟩, h2, g2b.rv (fun b _ hv => ?_), h.ne, h.nw⟩, hown1, hg.block r1 hlr1 (fun e => (hrow r1 e.symm).1 rfl)⟩
  rcases hv with hv | hv | hv
  · exact .inl (.inl hv)
  · exact .inl (.inr (.inl hv))
  · exact .inr hv
end
/-- A map of slices that is frozen, block and rows. -/
structure GmF {α : Type} [Rep α] (φ : Phi) (r : Nat) (hd : Int → Option Hdr) (f : Int → List α) : Prop where
  map : ∃ o M, φ r = some o ∧ MapO vH o M ∧ ∀ k : Int, mget M k = hd k
  none : ∀ k, hd k = none → f k = []
  row : ∀ k h, hd k = some h → SlV φ h.a h.c (f k) ∧ h.n = (f k).length
section
variable {α : Type} [Rep α] {E : TypeId} {B : Nat} {w0 w : World} {φ0 φ φ' : Phi} {r : Nat} {Rv : Nat → Prop} {hd : Int → Option Hdr} {f : Int → List α}
theorem GmF.mono (h : GmF φ r hd f) (hl : φ.le φ') : GmF φ' r hd f := by
  obtain ⟨o, M, h1, h2⟩ := h.map
  exact ⟨⟨o, M, hl _ _ h1, h2⟩, h.none, fun k h' hk => ⟨(h.row k h' hk).1.mono hl, (h.row k h' hk).2⟩⟩
/-- Blocks of the call's own, frozen. -/
theorem Inv.frzS (hi : Inv B w0 φ0 φ w) (S : Nat → Prop) (hS : ∀ b, S b → φ b = .none ∧ B ≤ b) : ∃ φ', φ.le φ' ∧ Inv B w0 φ0 φ' w ∧ (∀ b, S b → φ' b = w.heap[b]?) ∧ (∀ b, ¬ S b → φ' b = φ b) := by
  classical
  obtain ⟨φ', hφ'⟩ : ∃ φ' : Phi, φ' = fun b => if S b then w.heap[b]? else φ b := ⟨_, rfl⟩
  have hin : ∀ b, S b → φ' b = w.heap[b]? := fun b hb => by rw [hφ']; exact if_pos hb
  have hout : ∀ b, ¬ S b → φ' b = φ b := fun b hb => by rw [hφ']; exact if_neg hb
  have hle : φ.le φ' := by
    intro b o hb
    by_cases hc : S b
    · rw [(hS b hc).1] at hb; cases hb
    · rw [hout b hc]; exact hb
  have hfz : Fz φ' w := by
    intro b o hb
    by_cases hc : S b
    · rw [hin b hc] at hb; exact hb
    · rw [hout b hc] at hb; exact hi.fz b o hb
  exact ⟨φ', hle, ⟨hi.bel, hi.base, hfz, hi.le.trans hle, fun b hb => by
    by_cases hc : S b
    · have := (hS b hc).2; omega
    · rw [hout b hc]; exact hi.new b hb⟩, hin, hout⟩
theorem GrpW.toGm (hi : Inv B w0 φ0 φ w) (h : GrpW E B φ w r Rv hd f) (hle : φ.le φ') (hin : ∀ b, (b = r ∨ rowsB hd b) → φ' b = w.heap[b]?) : GmF φ' r hd f := by
  refine ⟨?_, h.none, fun k h' hk => ⟨?_, (h.row k h' hk).2⟩⟩
  · obtain ⟨o, M, h1, h2⟩ := h.map
    exact ⟨o, M, (hin r (.inl rfl)).trans h1, h2⟩
  · obtain ⟨φk, hlk, hik, hsk, hoth⟩ := (h.row k h' hk).1.release hi
    refine hsk.mono ?_
    intro b o hb
    by_cases hc : some b = h'.a.map (·.block)
    · rw [hin b (.inr ?_)]
      · exact hik.fz b o hb
      · cases ha : h'.a with
        | none => rw [ha] at hc; cases hc
        | some x => rw [ha] at hc; exact ⟨k, h', x, hk, ha, (Option.some.inj hc).symm⟩
    · rw [hoth b hc] at hb
      exact hle b o hb
/-- Both maps frozen. -/
theorem Rg2.frz {β : Type} [Rep β] {aw : Option Addr} {cw : Nat} {ws : List β} {r1 r2 : Nat} {hd1 hd2 : Int → Option Hdr} {f1 f2 : Int → List α} (h : Rg2 E w0 φ0 φ aw cw ws r1 hd1 f1 r2 hd2 f2 w) : ∃ φ', φ.le φ' ∧ OwG w0 φ0 φ' E aw cw ws w ∧ GmF φ' r1 hd1 f1 ∧ GmF φ' r2 hd2 f2 := by
  obtain ⟨φ', hle, hI, hin, hout⟩ := h.own.inv.frzS (fun b => (b = r1 ∨ rowsB hd1 b) ∨ (b = r2 ∨ rowsB hd2 b)) (fun b hb => by
    rcases hb with (rfl | ⟨k, h', x, hk, hx, rfl⟩) | (rfl | ⟨k, h', x, hk, hx, rfl⟩)
    · exact ⟨h.g1.fr, h.g1.lo⟩
    · exact ⟨(h.g1.row k h' hk).1.free x hx, ((h.g1.row k h' hk).1.lt x hx).1⟩
    · exact ⟨h.g2.fr, h.g2.lo⟩
    · exact ⟨(h.g2.row k h' hk).1.free x hx, ((h.g2.row k h' hk).1.lt x hx).1⟩)
  refine ⟨φ', hle, ⟨hI, h.own.own.frz hle (fun x hx => hout _ (fun hc => ?_))⟩, h.g1.toGm h.own.inv hle (fun b hb => hin b (.inl hb)), h.g2.toGm h.own.inv hle (fun b hb => hin b (.inr hb))⟩
  have hw := h.nw x.block ⟨x, hx, rfl⟩
  rcases hc with (e | ⟨k, h', y, hk, hy, e⟩) | (e | ⟨k, h', y, hk, hy, e⟩)
  · exact hw.1 e
  · exact (h.g1.nm k h' y hk hy).2 (.inr (.inl ⟨x, hx, e.symm⟩))
  · exact hw.2 e
  · exact (h.g2.nm k h' y hk hy).2 (.inr (.inl ⟨x, hx, e.symm⟩))
section
variable {P : Program} {T kt et : TypeId}
theorem GmF.look (h : GmF φ r hd f) (ht : P.underlying T = some (.map kt et)) (hk : P.underlying kt = some (Key.d Int)) (hz : ∀ w, (zeroValue et).run P w = .ok (.slice .none 0 0) w) (k : Int) :
    ∃ a c, (∀ W, Fz φ W → (Instr.lookup T (.map (some r)) (.int .i64 k) false).run P W = .ok (.slice a (f k).length c) W) ∧ SlV φ a c (f k) := by
  obtain ⟨o, M, h1, h2, h3⟩ := h.map
  cases hh : hd k with
  | none =>
    refine ⟨.none, 0, fun W hW => ?_, by rw [h.none k hh]; exact SlV.empty φ⟩
    rcases run_lookup (P := P) (w := W) ht hk (hW r o h1) h2 k false (hz W) with ⟨x, v, q1, q2, q3⟩ | ⟨q1, q3⟩
    · rw [h3, hh] at q1; cases q1
    · rw [h.none k hh]; exact q3
  | some h' =>
    obtain ⟨g1, g2⟩ := h.row k h' hh
    refine ⟨h'.a, h'.c, fun W hW => ?_, g1⟩
    rcases run_lookup (P := P) (w := W) ht hk (hW r o h1) h2 k false (hz W) with ⟨x, v, q1, q2, q3⟩ | ⟨q1, q3⟩
    · rw [h3, hh] at q1; cases q1
      cases q2
      rw [← g2]; exact q3
    · rw [h3, hh] at q1; cases q1
end
end
end Go.Proofs.YtmlpjffnmkndoaaGreatDoor

namespace Go.Proofs.YtmlpjffnmkndoaaGreatDoor
open Go.RowKit
set_option linter.unusedVariables false
set_option linter.unusedSimpArgs false
/-- A number's three cells. -/
structure Raw3 where
  g : Bool
  a1 : Option Addr
  k1 : Nat
  c1 : Nat
  a2 : Option Addr
  k2 : Nat
  c2 : Nat
def Raw3.v (x : Raw3) : Value := .agg #[.bool x.g, .slice x.a1 x.k1 x.c1, .slice x.a2 x.k2 x.c2]
instance : Rep Raw3 where
  size := 3
  rep := fun _ x cs => cs = [.bool x.g, .slice x.a1 x.k1 x.c1, .slice x.a2 x.k2 x.c2]
  len := by intro _ _ _ h; subst h; rfl
  mono := fun _ h => h
  one := by
    intro _ _ _ h u hu
    subst h
    simp at hu
    rcases hu with rfl | rfl | rfl <;> rfl
def raw0 : Raw3 := ⟨false, none, 0, 0, none, 0, 0⟩
theorem Own.setE {α : Type} [Rep α] {B : Nat} {w0 w : World} {φ0 φ : Phi} {E : TypeId} {g : Nat} {cap : Nat} {xs : List α} (h : Own B φ w E (some ⟨g, 0, none⟩) cap xs) (hi : Inv B w0 φ0 φ w) {k : Nat} (hk : k < xs.length) {y : α} {j : Nat} {u : Value} (hj : j < Rep.size α) (hy : ∀ cs, Rep.rep φ xs[k] cs → Rep.rep φ y (cs.set j u)) :
    Own B φ (w.setCell ⟨g, k * Rep.size α + j, none⟩ u) E (some ⟨g, 0, none⟩) cap (xs.set k y) ∧ Inv B w0 φ0 φ (w.setCell ⟨g, k * Rep.size α + j, none⟩ u) := by
  obtain ⟨g', hg', h1, h2, h3, h4, hc⟩ := h.elem hk
  cases hg'
  obtain ⟨cs, e1, hcs⟩ := hc k hk
  have hl : cs.length = Rep.size α := Rep.len e1
  exact h.setCell hi hk hcs hl (by omega) (hy cs e1)
theorem Own.rawD {B : Nat} {φ : Phi} {w : World} {E : TypeId} {a : Option Addr} {cap : Nat} {xs : List Raw3} (h : Own B φ w E a cap xs) {k n : Nat} (hn : Hid (xs.length = n)) (hk : k < n) :
    ∃ g, a = some ⟨g, 0, none⟩ ∧ B ≤ g ∧ g < w.heap.size ∧ φ g = none ∧ w.cell? ⟨g, k * 3, none⟩ = some (.bool (xs.getD k raw0).g) ∧ w.cell? ⟨g, k * 3 + 1, none⟩ = some (.slice (xs.getD k raw0).a1 (xs.getD k raw0).k1 (xs.getD k raw0).c1) ∧ w.cell? ⟨g, k * 3 + 2, none⟩ = some (.slice (xs.getD k raw0).a2 (xs.getD k raw0).k2 (xs.getD k raw0).c2) ∧ (∀ j, w.frozen? ⟨g, j, none⟩ = false) ∧
      ∀ (y : Raw3) w0 φ0, Inv B w0 φ0 φ w → Own B φ (((w.setCell ⟨g, k * 3, none⟩ (.bool y.g)).setCell ⟨g, k * 3 + 1, none⟩ (.slice y.a1 y.k1 y.c1)).setCell ⟨g, k * 3 + 2, none⟩ (.slice y.a2 y.k2 y.c2)) E a cap (xs.set k y) ∧ Inv B w0 φ0 φ (((w.setCell ⟨g, k * 3, none⟩ (.bool y.g)).setCell ⟨g, k * 3 + 1, none⟩ (.slice y.a1 y.k1 y.c1)).setCell ⟨g, k * 3 + 2, none⟩ (.slice y.a2 y.k2 y.c2)) := by
  have hk' : k < xs.length := by rw [hn.out]; exact hk
  obtain ⟨g, rfl, h1, h2, h3, h4, hc⟩ := h.elem hk'
  obtain ⟨cs, e1, hj⟩ := hc k hk'
  have hs : Rep.size Raw3 = 3 := rfl
  rw [getD_elem0 _ _ _ hk']
  have e1' : cs = [.bool xs[k].g, .slice xs[k].a1 xs[k].k1 xs[k].c1, .slice xs[k].a2 xs[k].k2 xs[k].c2] := e1
  subst e1'
  have j0 := hj 0 (by simp)
  have j1 := hj 1 (by simp)
  have j2 := hj 2 (by simp)
  rw [hs] at j0 j1 j2
  refine ⟨g, rfl, h1, h2, h3, j0, j1, j2, h4, fun y w0 φ0 hi => ?_⟩
  obtain ⟨o1, i1⟩ := h.setE hi hk' (y := ⟨y.g, xs[k].a1, xs[k].k1, xs[k].c1, xs[k].a2, xs[k].k2, xs[k].c2⟩) (j := 0) (u := .bool y.g) (by rw [hs]; omega) (fun cs hcs => by
    have : cs = [.bool xs[k].g, .slice xs[k].a1 xs[k].k1 xs[k].c1, .slice xs[k].a2 xs[k].k2 xs[k].c2] := hcs
    subst this; rfl)
  obtain ⟨o2, i2⟩ := o1.setE i1 (k := k) (by rw [List.length_set]; exact hk') (y := ⟨y.g, y.a1, y.k1, y.c1, xs[k].a2, xs[k].k2, xs[k].c2⟩) (j := 1) (u := .slice y.a1 y.k1 y.c1) (by rw [hs]; omega) (fun cs hcs => by
    rw [List.getElem_set_self] at hcs
    have : cs = [.bool y.g, .slice xs[k].a1 xs[k].k1 xs[k].c1, .slice xs[k].a2 xs[k].k2 xs[k].c2] := hcs
    subst this; rfl)
  rw [List.set_set] at o2
  obtain ⟨o3, i3⟩ := o2.setE i2 (k := k) (by rw [List.length_set]; exact hk') (y := y) (j := 2) (u := .slice y.a2 y.k2 y.c2) (by rw [hs]; omega) (fun cs hcs => by
    rw [List.getElem_set_self] at hcs
    have : cs = [.bool y.g, .slice y.a1 y.k1 y.c1, .slice xs[k].a2 xs[k].k2 xs[k].c2] := hcs
    subst this; rfl)
  rw [List.set_set] at o3
  exact ⟨o3, i3⟩
/-- Numbers as their cells. -/
def RawX (φ : Phi) (N D : Nat) : List Raw3 → List Rat → Prop
  | [], [] => True
  | r :: rs, x :: xs => FfX φ r.v x N D ∧ RawX φ N D rs xs
  | _, _ => False
theorem RawX.len {φ : Phi} {N D : Nat} : ∀ {rs : List Raw3} {xs : List Rat}, RawX φ N D rs xs → rs.length = xs.length
  | [], [], _ => rfl
  | r :: rs, x :: xs, h => by rw [List.length_cons, List.length_cons, RawX.len h.2]
theorem RawX.mono {φ φ' : Phi} {N D : Nat} (hl : φ.le φ') : ∀ {rs : List Raw3} {xs : List Rat}, RawX φ N D rs xs → RawX φ' N D rs xs
  | [], [], _ => trivial
  | r :: rs, x :: xs, h => ⟨h.1.mono hl, RawX.mono hl h.2⟩
theorem RawX.le {φ : Phi} {N D N' D' : Nat} (h1 : N ≤ N') (h2 : D ≤ D') : ∀ {rs : List Raw3} {xs : List Rat}, RawX φ N D rs xs → RawX φ N' D' rs xs
  | [], [], _ => trivial
  | r :: rs, x :: xs, h => ⟨h.1.le h1 h2, RawX.le h1 h2 h.2⟩
theorem RawX.get {φ : Phi} {N D : Nat} : ∀ {rs : List Raw3} {xs : List Rat}, RawX φ N D rs xs → ∀ k, k < rs.length → FfX φ (rs.getD k raw0).v (xs.getD k 0) N D
  | [], _, _, k, hk => absurd hk (Nat.not_lt_zero k)
  | r :: rs, [], h, _, _ => h.elim
  | r :: rs, x :: xs, h, 0, _ => h.1
  | r :: rs, x :: xs, h, k + 1, hk => by
    have := RawX.get h.2 k (by simpa using hk)
    simpa using this
theorem RawX.set {φ : Phi} {N D : Nat} {r : Raw3} {x : Rat} (hx : FfX φ r.v x N D) : ∀ {rs : List Raw3} {xs : List Rat}, RawX φ N D rs xs → ∀ k, RawX φ N D (rs.set k r) (xs.set k x)
  | [], [], _, _ => trivial
  | r' :: rs, x' :: xs, h, 0 => ⟨hx, h.2⟩
  | r' :: rs, x' :: xs, h, k + 1 => ⟨h.1, RawX.set hx h.2 k⟩
theorem repL_raw {φ : Phi} {N D : Nat} : ∀ {xs : List (Fx N D)} {cells : List Value}, RepL φ xs cells → ∃ rs : List Raw3, RepL φ rs cells ∧ RawX φ N D rs (xs.map Fx.x)
  | [], cells, h => ⟨[], h, trivial⟩
  | x :: xs, cells, h => by
    obtain ⟨cs, rest, rfl, ⟨g, a1, k1, c1, a2, k2, c2, rfl, hx⟩, hr⟩ := h
    obtain ⟨rs, h1, h2⟩ := repL_raw hr
    exact ⟨⟨g, a1, k1, c1, a2, k2, c2⟩ :: rs, ⟨_, rest, rfl, rfl, h1⟩, hx, h2⟩
theorem rawL_fx {φ : Phi} {N D : Nat} : ∀ {rs : List Raw3} {xs : List Rat} {cells : List Value}, RepL φ rs cells → RawX φ N D rs xs → RepL φ (xs.map (Fx.mk (N := N) (D := D))) cells
  | [], [], cells, h, _ => h
  | r :: rs, x :: xs, cells, h, hx => by
    obtain ⟨cs, rest, rfl, hr, h2⟩ := h
    have hr : cs = [.bool r.g, .slice r.a1 r.k1 r.c1, .slice r.a2 r.k2 r.c2] := hr
    subst hr
    exact ⟨_, rest, rfl, ⟨r.g, r.a1, r.k1, r.c1, r.a2, r.k2, r.c2, rfl, hx.1⟩, rawL_fx h2 hx.2⟩
theorem Own.raw {B : Nat} {φ : Phi} {w : World} {E : TypeId} {a : Option Addr} {cap N D : Nat} {xs : List (Fx N D)} (h : Own B φ w E a cap xs) : ∃ rs : List Raw3, rs.length = xs.length ∧ Own B φ w E a cap rs ∧ RawX φ N D rs (xs.map Fx.x) := by
  obtain ⟨cells, h1, h2⟩ := h.row
  obtain ⟨rs, h3, h4⟩ := repL_raw h2
  have hl : rs.length = xs.length := by have := h4.len; rw [List.length_map] at this; exact this
  exact ⟨rs, hl, ⟨⟨cells, by rw [hl]; exact h1, h3⟩, h.free⟩, h4⟩
theorem Own.fx {B : Nat} {φ : Phi} {w : World} {E : TypeId} {a : Option Addr} {cap N D : Nat} {rs : List Raw3} {xs : List Rat} (h : Own B φ w E a cap rs) (hx : RawX φ N D rs xs) : Own B φ w E a cap (xs.map (Fx.mk (N := N) (D := D))) := by
  obtain ⟨cells, h1, h2⟩ := h.row
  exact ⟨⟨cells, by rw [List.length_map, ← hx.len]; exact h1, rawL_fx h2 hx⟩, h.free⟩
set_option maxRecDepth 100000 in
set_option maxHeartbeats 2000000 in
theorem weightsOf_own {M : Nat} (hD : Hid (DivOk M)) (hM2 : p10 2000 ≤ M) {n : Nat} {a : Option Addr} {cap : Nat} {l : List Psn} {w : World} {φ : Phi} (hφ : Fz φ w) (sl : SlV φ a cap l) (hn : Hid (l.length = n)) (hn3 : n ≤ 3000) (hsz : Hid (∀ p ∈ l, PsnG p)) (hok : Hid (∀ p ∈ l, shoF p.1.1 p.1.2 = 0)) :
    Calls Tryz.prog 33 #[.slice a n cap] w (fun e w' => ∃ ao co φ', e = .returned (.slice ao n co) ∧ Inv w.heap.size w φ φ' w' ∧ Own w.heap.size φ' w' 70 ao co (l.map fxW)) := by
  have hS0 : Hid (OwG w φ φ 70 none 0 ([] : List (Fx 1000000000000 1000000000000)) w) := Lib.hid ⟨Inv.start hφ, Own.nil _ _ _ _⟩
  have HM2 := Lib.hid hM2
  clear hφ hM2
  go_enter Tryz.func33, Tryz.ntmps33
  go_wp2
  go_loopw [3, 8] (fun ov iv wr => ∃ (k : Nat) (ao : Option Addr) (co : Nat) (os : List (Fx 1000000000000 1000000000000)) (φ' : Phi), k ≤ n ∧ iv = .int .i64 (k : Int) ∧ ov = .slice ao k co ∧ Hid (os.length = k) ∧ Hid (os = (l.take k).map fxW) ∧ Hid (OwG w φ φ' 70 ao co os wr)) (fun _ iv _ => n - (intOf iv).toNat)
  case atStart => exact ⟨0, none, 0, [], φ, Nat.zero_le _, rfl, rfl, Lib.hid rfl, Lib.hid rfl, hS0⟩
  case round =>
    clear hS0
    obtain ⟨k, ao, co, os, φ', hk, rfl, rfl, hol, hL, hS⟩ := hrel
    by_cases hlt : k < n
    · have hlti : (k : Int) < (n : Int) := by omega
      obtain ⟨b, off, rfl, f⟩ := sl.psnsD hn hlt
      obtain ⟨ar, cr, _, f2⟩ := f k hlt
      obtain ⟨d0, d1, d2, d3, d4, d5⟩ := f2 wr (hS.out.inv.fz.sub hS.out.inv.le)
      have hm : l.getD k psn0 ∈ l := by rw [getD_elem0 _ _ _ (by rw [hn.out]; exact hlt)]; exact List.getElem_mem _
      obtain ⟨p, hp⟩ : ∃ p, l.getD k psn0 = p := ⟨_, rfl⟩
      rw [hp] at hm d0 d1 d2 d3 d4 d5
      have hz := hok.out p hm
      have hg := hsz.out p hm
      obtain ⟨⟨s, t⟩, cl, x, y, z⟩ := p
      have hz : shoF s t = 0 := hz
      have hs : s.size ≤ 9223372036854775807 := hg.1
      have ht : t.size ≤ 9223372036854775807 := hg.2
      dsimp only at d0 d1 d2 d3 d4 d5
      obtain ⟨m, hm9⟩ : ∃ m, cl.length = m := ⟨_, rfl⟩
      rw [hm9] at d2
      have hrf := Lib.hid (shoF_ok hz).1
      obtain ⟨hN, hDn⟩ := sho_lt hz
      have hC := Lib.hid (fun (ψ : Phi) W (hf : Fz ψ W) => FracOf_any hD HM2.out hs ht hrf.out hf)
      have HB := Lib.hid (And.intro hN hDn)
      have hnx : Hid (os ++ [⟨ratX s t⟩] = (l.take (k + 1)).map fxW) := Lib.hid (by
        rw [take_snocD psn0 l k n hn.out hlt, List.map_append, hp, hL.out]; rfl)
      have hS1 := Lib.hid (hS.out.alloc (.cells #[.string s, .string t, .slice ar m cr, .int .i64 x, .int .i64 y, .int .i64 z] 76))
      clear f f2 hm hz hg hp hm9 hN hDn hS
      go_wp2_with (first
        | (go_at_call 42; (with_reducible refine (hC.out φ' _ hS1.out.inv.fz).mono ?_); rintro e w4 ⟨v4, φ4, rfl, hi4, hv4⟩; have hv5 := hv4.le HB.out.1 HB.out.2; obtain ⟨g, a1, k1, c1, a2, k2, c2, rfl, hrep⟩ := hv5.fx; have hS4 := Lib.hid (hS1.out.call hi4); have hin := Lib.hid hS4.out.inv; have hon := Lib.hid hS4.out.own; have HREP := Lib.hid hrep; clear hi4 hv4 hv5 hrep)
        | (at_builtin; (refine wpList_app1F (α := Fx 1000000000000 1000000000000) rfl _ _ 62 rfl (slFx _ _) hin.out ao co os hon.out #[.bool g, .slice a1 k1 c1, .slice a2 k2 c2] 70 ⟨ratX s t⟩ HREP.out (by rw [hol.out]; rfl) 1 rfl (by rw [hol.out]; omega) ?_; intro a9 c9 w9 hi9 ho9 hg9 hf9; rw [show (os ++ [(⟨ratX s t⟩ : Fx 1000000000000 1000000000000)]).length = k + 1 from by rw [List.length_append, hol.out]; rfl])))
      go_roundw
      case rel => exact ⟨k + 1, a9, c9, os ++ [⟨ratX s t⟩], φ4, by omega, by go_num, rfl, Lib.hid (by rw [List.length_append, hol.out]; rfl), hnx, Lib.hid ⟨hi9, ho9⟩⟩
      case measure => (simp [intOf] <;> omega)
    · obtain rfl : k = n := by omega
      have e : os = l.map fxW := by
        have := hL.out
        rwa [List.take_of_length_le (by rw [hn.out]; exact Nat.le_refl _)] at this
      have HO := Lib.hid hS.out.own
      have HI2 := Lib.hid hS.out.inv
      rw [e] at HO
      clear hS hL e
      go_wp2
      go_ret
      exact ⟨ao, co, φ', rfl, HI2.out, HO.out⟩
end Go.Proofs.YtmlpjffnmkndoaaGreatDoor
