/- The walk of layerOf: the state, and how it turns. Conditions: none; plain Lean over the guide's library. -/
import Derived.Test.YtnlhalnjbkpdnaaDoorZ9
import Derived.Test.YtnlhalnjbkpdnaaDoorZ6
import Derived.Test.YtnlhalnjbkpdnaaDoorStep
import Derived.Deep.RegionLaw
import Derived.Deep.AppendLies
namespace Go.Proofs.YtnlhalnjbkpdnaaDoor
open Go.RowKit
set_option linter.unusedVariables false
set_option linter.unusedSimpArgs false
theorem grSet (w : World) (g off : Nat) (u : Value) : w.grownBy (w.setCell ⟨g, off, none⟩ u) (some g) := ⟨rfl, rfl, rfl, by simp [World.setCell], fun k _ hk => Below.heap_setCell _ _ _ _ (by intro e; exact hk (by rw [e]))⟩
/-- A result's cell, a layer in the making, its clusters. -/
structure LyS (w0 : World) (φ : Phi) (b4 b5 r : Nat) (nm : ByteArray) (a : Option Addr) (n c : Nat) (S : Int) (hd : Int → Option Cl) (sz : Int → Int) (rw_ : Int → List Unt) (W : World) : Prop where
  inv : Inv w0.heap.size w0 φ φ W
  k4 : Blk W b4 #[.string ⟨#[]⟩, .slice none 0 0, .int .i64 0, .slice none 0 0] 37
  k5 : Blk W b5 #[.string nm, .slice a n c, .int .i64 S, .slice none 0 0] 37
  cl : ClW w0.heap.size φ W r (fun b => b = b4 ∨ b = b5) hd sz rw_
  lo : w0.heap.size ≤ b4 ∧ w0.heap.size ≤ b5
  ne : b4 ≠ b5 ∧ b4 ≠ r ∧ b5 ≠ r
  fr : φ b4 = none ∧ φ b5 = none
section
variable {w0 W w' : World} {φ : Phi} {b4 b5 r : Nat} {nm : ByteArray} {a : Option Addr} {n c : Nat} {S : Int} {hd : Int → Option Cl} {sz : Int → Int} {rw_ : Int → List Unt}
theorem LyS.callB (h : LyS w0 φ b4 b5 r nm a n c S hd sz rw_ W) (hb : Below W.heap.size W w') : LyS w0 φ b4 b5 r nm a n c S hd sz rw_ w' :=
  ⟨h.inv.callB hb, h.k4.callB hb, h.k5.callB hb, h.cl.callB hb, h.lo, h.ne, h.fr⟩
theorem LyS.rvlt (h : LyS w0 φ b4 b5 r nm a n c S hd sz rw_ W) : ∀ b, (b = b4 ∨ b = b5) → b < W.heap.size := fun b hb => by
  rcases hb with rfl | rfl
  · exact h.k4.lt
  · exact h.k5.lt
theorem LyS.size (h : LyS w0 φ b4 b5 r nm a n c S hd sz rw_ W) (v : Int) : LyS w0 φ b4 b5 r nm a n c v hd sz rw_ (W.setCell ⟨b5, 2, none⟩ (.int .i64 v)) :=
  ⟨h.inv.setCell h.lo.2 h.fr.2 _, blkGr h.k4 (grSet _ _ _ _) h.ne.1, h.k5.set 2 _, h.cl.other (grSet _ _ _ _) h.ne.2.2 (.inr rfl), h.lo, h.ne, h.fr⟩
theorem LyS.add (h : LyS w0 φ b4 b5 r nm a n c S hd sz rw_ W) {k : Int} (hk : hd k = none) : ∃ o, (∀ V, V.heap[r]? = W.heap[r]? → (Instr.mapUpdate 61 (.map (some r)) (.int .i64 k) (.pointer (some ⟨W.heap.size, 0, none⟩))).run Tryd.prog V = .ok () (setMap V r o)) ∧ LyS w0 φ b4 b5 r nm a n c S (updK hd k (some ⟨W.heap.size, none, 0⟩)) sz rw_ (setMap (W.alloc (.cells #[.int .i64 k, .int .i64 0, .slice none 0 0] 64)) r o) := by
  obtain ⟨o, h1, h2⟩ := h.cl.add h.inv hk h.rvlt
  have g := setMap_grown (W.alloc (.cells #[.int .i64 k, .int .i64 0, .slice none 0 0] 64)) r o
  exact ⟨o, h1, (h.inv.alloc _).write h.cl.lo h.cl.fr g, blkGr (h.k4.alloc _) g h.ne.2.1, blkGr (h.k5.alloc _) g h.ne.2.2, h2, h.lo, h.ne, h.fr⟩
theorem LyS.far (h : LyS w0 φ b4 b5 r nm a n c S hd sz rw_ W) {p : Int × Bool} {x : Nat} (hx : bkC hd p = some x) : b4 ≠ x ∧ b5 ≠ x ∧ x ≠ r := by
  have q := h.cl.blk p x hx
  exact ⟨fun e => q.2.2.2 (.inl e.symm), fun e => q.2.2.2 (.inr e.symm), q.2.2.1⟩
theorem updK_self {β : Type} (f : Int → β) (k : Int) (x : β) (h : f k = x) : updK f k x = f := by
  funext k'
  unfold updK
  split
  · next e => rw [e, h]
  · rfl
/-- A cluster's size. -/
theorem LyS.csize (h : LyS w0 φ b4 b5 r nm a n c S hd sz rw_ W) {k : Int} {hc : Cl} (hk : hd k = some hc) (v : Int) : LyS w0 φ b4 b5 r nm a n c S hd (updK sz k v) rw_ (W.setCell ⟨hc.b, 1, none⟩ (.int .i64 v)) := by
  have hf := h.far (bkC_b hk)
  have hq := h.cl.blk _ _ (bkC_b hk)
  have g := grSet W hc.b 1 (.int .i64 v)
  have hu := h.cl.upd (w' := W.setCell ⟨hc.b, 1, none⟩ (.int .i64 v)) hk (v := v) (l := rw_ k) (a' := hc.a) (c' := hc.c) (fun b hb => h.inv.fz.new_none hb) h.inv.size (g.block r h.cl.lt (fun e => hf.2.2 (Option.some.inj e).symm)) (fun p x hp hx => g.block x (h.cl.blt hx) (fun e => hp (by
    have e2 := h.cl.inj p (k, false) x hx (by rw [bkC_b hk, Option.some.inj e])
    rw [e2]))) ((h.cl.box k hc hk).set 1 _) ((h.cl.row k hc hk).other g (fun x hx e => by
    have e2 := h.cl.inj (k, true) (k, false) x.block (bkC_a hk hx) (by rw [bkC_b hk, Option.some.inj e])
    cases e2)) (fun x hx => .inl (by rw [hx]; rfl)) h.rvlt
  rw [updK_self hd k _ hk, updK_self rw_ k _ rfl] at hu
  exact ⟨h.inv.setCell hq.1 hq.2.1 _, blkGr h.k4 g hf.1, blkGr h.k5 g hf.2.1, hu, h.lo, h.ne, h.fr⟩
/-- A cluster's row has grown. -/
theorem LyS.crow (h : LyS w0 φ b4 b5 r nm a n c S hd sz rw_ W) {k : Int} {hc : Cl} (hk : hd k = some hc) {a' : Option Addr} {c' : Nat} {l : List Unt} (hi : Inv w0.heap.size w0 φ φ w') (ho : Own w0.heap.size φ w' 45 a' c' l) (hg : W.grownBy w' (hc.a.map (·.block))) (hf : ∀ x, a' = some x → hc.a.map (·.block) = some x.block ∨ W.heap.size ≤ x.block) :
    LyS w0 φ b4 b5 r nm a n c S (updK hd k (some ⟨hc.b, a', c'⟩)) sz (updK rw_ k l) (w'.setCell ⟨hc.b, 2, none⟩ (.slice a' l.length c')) := by
  have hfb := h.far (bkC_b hk)
  have hq := h.cl.blk _ _ (bkC_b hk)
  have g := grSet w' hc.b 2 (.slice a' l.length c')
  have hne : ∀ x, x < W.heap.size → bkC hd (k, true) ≠ some x → w'.heap[x]? = W.heap[x]? := fun x hx hn => hg.block x hx (fun e => hn (by
    unfold bkC
    rw [hk]
    simpa using e.symm))
  have hnb : ∀ x, bkC hd (k, true) = some x → x ≠ b4 ∧ x ≠ b5 ∧ x ≠ r := fun x hx => ⟨fun e => (h.far hx).1 e.symm, fun e => (h.far hx).2.1 e.symm, (h.far hx).2.2⟩
  have hb1 : Blk w' hc.b #[.int .i64 k, .int .i64 (sz k), .slice hc.a (rw_ k).length hc.c] 64 := (hne hc.b (h.cl.blt (bkC_b hk)) (fun e => by
    have e2 := h.cl.inj _ _ _ e (bkC_b hk)
    cases e2)).trans (h.cl.box k hc hk)
  have hsz := hg.size
  have hu := h.cl.upd (w' := w'.setCell ⟨hc.b, 2, none⟩ (.slice a' l.length c')) hk (v := sz k) (l := l) (a' := a') (c' := c') (fun b hb => h.inv.fz.new_none hb) h.inv.size ((g.block r (Nat.lt_of_lt_of_le h.cl.lt hsz) (fun e => hfb.2.2 (Option.some.inj e).symm)).trans (hne r h.cl.lt (fun e => (hnb r e).2.2 rfl))) (fun p x hp hx => (g.block x (Nat.lt_of_lt_of_le (h.cl.blt hx) hsz) (fun e => hp (by
    have e2 := h.cl.inj p (k, false) x hx (by rw [bkC_b hk, Option.some.inj e])
    rw [e2]))).trans (hne x (h.cl.blt hx) (fun e => hp (by
    have e2 := h.cl.inj p (k, true) x hx e
    rw [e2])))) (hb1.set 2 _) (ho.other g (fun x hx e => by
    rcases hf x hx with q | q
    · have e1 : bkC hd (k, true) = some x.block := by
        unfold bkC
        rw [hk]
        simpa using q
      have e2 := h.cl.inj (k, true) (k, false) x.block e1 (by rw [bkC_b hk, Option.some.inj e])
      cases e2
    · have := h.cl.blt (bkC_b hk)
      have := Option.some.inj e
      omega)) hf h.rvlt
  rw [updK_self sz k _ rfl] at hu
  exact ⟨hi.setCell hq.1 hq.2.1 _, blkGr ((hne b4 h.k4.lt (fun e => (hnb _ e).1 rfl)).trans h.k4) g hfb.1, blkGr ((hne b5 h.k5.lt (fun e => (hnb _ e).2.1 rfl)).trans h.k5) g hfb.2.1, hu, h.lo, h.ne, h.fr⟩
end
end Go.Proofs.YtnlhalnjbkpdnaaDoor
