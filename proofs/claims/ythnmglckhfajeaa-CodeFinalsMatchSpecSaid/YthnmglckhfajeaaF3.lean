/- Ranging over maps of integers in a walk; the counts of final. Conditions: none. -/
import Derived.Test.YthnmglckhfajeaaF2
import Derived.Test.YthnmglckhfajeaaRng
namespace Go.Proofs.Ythnmglckhfajeaa
open Go.RowKit
set_option linter.unusedVariables false

/-- Block r goes over the map of block b, which answers as f; the keys of S have been met. -/
def RngF (w : World) (b r : Nat) (f : Int → Option Int) (S : List Int) : Prop := ∃ M, RngW vI w b r M S ∧ ∀ k, mget M k = f k
section
variable {w w' : World} {b r : Nat} {f : Int → Option Int} {S : List Int}
theorem RngF.lt (h : RngF w b r f S) : b < w.heap.size ∧ r < w.heap.size ∧ r ≠ b := by obtain ⟨M, h, _⟩ := h; exact h.lt
theorem RngF.kept (h : RngF w b r f S) (hb : w'.heap[b]? = w.heap[b]?) (hr : w'.heap[r]? = w.heap[r]?) : RngF w' b r f S := by obtain ⟨M, h, e⟩ := h; exact ⟨M, h.kept hb hr, e⟩
theorem RngF.callB (h : RngF w b r f S) (hb : Below w.heap.size w w') : RngF w' b r f S := by obtain ⟨M, h, e⟩ := h; exact ⟨M, h.callB hb, e⟩
theorem RngF.drewN (h : RngF w b r f S) (q : Nat) : RngF (w.drewN q) b r f S := h.callB (bdrewN (Below.refl _ _) q)
theorem RngF.set (h : RngF w b r f S) {g off : Nat} (hb : b ≠ g) (hr : r ≠ g) (u : Value) : RngF (w.setCell ⟨g, off, none⟩ u) b r f S := h.kept (Below.heap_setCell _ _ _ _ hb) (Below.heap_setCell _ _ _ _ hr)
theorem RngF.map (h : RngF w b r f S) : MapW w b f := by
  obtain ⟨M, ⟨es, clock, since, seen, c0, hb, hm, _⟩, e⟩ := h
  exact ⟨_, M, hb, hm, e⟩
variable {ops : Array Oper} {rest : List Oper} {o : Oper} {a : Act} {Q : Exit → Act → World → Prop}
theorem wpList_range_F (hg : o.guard = none) (m : Operand) (hop : o.op = Op.range 64 m) (hm : a.eval m = .map (some b)) (h : MapW w b f)
    (hK : ∀ w', RngF w' b w.heap.size f [] → Below w.heap.size w w' → w'.heap.size = w.heap.size + 1 → wpList Try.prog ops Q rest (a.put o.dst (.pointer (some ⟨w.heap.size, 0, none⟩))) w') : wpList Try.prog ops Q (o :: rest) a w := by
  refine wpList_plain hg fun K' hK' => ?_
  obtain ⟨ob, M, h1, h2, h3⟩ := h
  obtain ⟨o', hrun, hr⟩ := RngW.start (P := Try.prog) Try.underlying64 h1 h2
  unfold Oper.wp
  simp [execOp, hop, hm, hrun, Result.andThen]
  exact hK' _ _ (hK _ ⟨M, hr, h3⟩ ((Below.refl _ _).alloc (Nat.le_refl _) _) (by simp))
theorem wpList_next_F (hg : o.guard = none) (it : Operand) (hop : o.op = Op.next it false) (hit : a.eval it = .pointer (some ⟨r, 0, none⟩)) (h : RngF w b r f S)
    (hDone : (∀ k x, f k = some x → k ∈ S) → wpList Try.prog ops Q rest (a.put o.dst (.tuple #[.bool false])) w)
    (hMore : ∀ (k x : Int) (w' : World), f k = some x → k ∉ S → RngF w' b r f (k :: S) → w.grownBy w' (some r) → w'.heap.size = w.heap.size → w'.rangeLeft b r < w.rangeLeft b r → (Instr.entry (.pointer (some ⟨r, 0, none⟩))).run Try.prog w' = .ok (.tuple #[.int .i64 k, .int .i64 x]) w' →
      wpList Try.prog ops Q rest (a.put o.dst (.tuple #[.bool true, .int .i64 k, .int .i64 x])) w') : wpList Try.prog ops Q (o :: rest) a w := by
  refine wpList_plain hg fun K' hK' => ?_
  obtain ⟨M, h, e⟩ := h
  have hnd : (M.map (·.1)).Nodup := by obtain ⟨es, clock, since, seen, c0, hb, hm, _⟩ := h; exact hm.nodup
  unfold Oper.wp
  rcases h.next (P := Try.prog) o.type with ⟨h0, hrun⟩ | ⟨k, x, v, w', h1, h2, h3, hrun, h4, h5, h6, h7, h8⟩
  · simp [execOp, hop, hit, hrun, Result.andThen]
    exact hK' _ _ (hDone fun k x hk => h0 k x (mem_of_mget (by rw [e]; exact hk)))
  · cases h3
    simp [execOp, hop, hit, hrun, Result.andThen]
    exact hK' _ _ (hMore k x w' (by rw [← e]; exact mget_of_mem hnd h1) h2 ⟨M, h4, e⟩ h5 h6 h7 h8)
end
/-- Counts as what a map answers. -/
def cnF (n : Nat) : Option Int := if n = 0 then none else some (n : Int)
theorem cnF_getD (n : Nat) : (cnF n).getD 0 = n := by unfold cnF; split <;> simp_all
theorem cnF_some {n : Nat} {x : Int} (h : cnF n = some x) : 0 < n ∧ x = n := by unfold cnF at h; split at h; cases h; cases h; exact ⟨by omega, rfl⟩
theorem cnF_succ (n : Nat) : cnF (n + 1) = some ((n : Int) + 1) := by unfold cnF; rw [if_neg (by omega)]; simp
def ownF (g : List Cdg) : Int → Option Int := fun c => cnF (cntO g c)
def abF (l : List Nod) (g : List Cdg) (x : Int) (j : Nat) : Int → Option Int := fun c => cnF (cntA l g c + if c ∈ (upL l x).take j then 1 else 0)
theorem ownF_step (g : List Cdg) (x : Cdg) : updF (ownF g) x.2.2 ((cntO g x.2.2 : Int) + 1) = ownF (g ++ [x]) := by
  funext c
  unfold updF ownF
  rw [cntO_snoc]
  by_cases h : c = x.2.2
  · subst h; rw [if_pos rfl, if_pos rfl, cnF_succ]
  · rw [if_neg h, if_neg (fun e => h e.symm)]; rfl
theorem abF_zero (l : List Nod) (g : List Cdg) (x : Int) : abF l g x 0 = fun c => cnF (cntA l g c) := by funext c; simp [abF]
theorem abF_full (l : List Nod) (g : List Cdg) (x : Cdg) : abF l g x.2.2 (upL l x.2.2).length = fun c => cnF (cntA l (g ++ [x]) c) := by
  funext c; unfold abF; rw [cntA_snoc, List.take_length]
theorem abF_step (l : List Nod) (g : List Cdg) (x : Int) {j : Nat} {y : Int} (hj : j < (upL l x).length) (hy : (upL l x).getD j 0 = y) (hnd : (upL l x).Nodup) : (abF l g x j y = cnF (cntA l g y)) ∧ updF (abF l g x j) y ((cntA l g y : Int) + 1) = abF l g x (j + 1) := by
  have hyj : (upL l x)[j] = y := by rw [← hy, getD_elem0 _ _ _ hj]
  have hnot : y ∉ (upL l x).take j := by
    intro hm
    obtain ⟨i, hi, he⟩ := List.getElem_of_mem hm
    rw [List.getElem_take] at he
    have hij : i < j := by rw [List.length_take] at hi; omega
    have hpw := List.pairwise_iff_getElem.1 hnd
    exact hpw i j (by omega) hj hij (he.trans hyj.symm)
  refine ⟨by unfold abF; rw [if_neg hnot]; rfl, ?_⟩
  funext c
  unfold updF abF
  rw [take_snoc _ _ hj, hyj]
  by_cases h : c = y
  · subst h
    rw [if_pos rfl, if_pos (by simp), cnF_succ]
  · rw [if_neg h]
    congr 2
    simp [h]

/-- Two maps and a block of the call's own. -/
structure FnSt (w0 : World) (r5 r6 b4 : Nat) (f5 f6 : Int → Option Int) (cs4 : Array Value) (T : TypeId) (wr : World) : Prop where
  bel : Below w0.heap.size w0 wr
  m5 : MapW wr r5 f5
  m6 : MapW wr r6 f6
  b : Blk wr b4 cs4 T
  lo : w0.heap.size ≤ r5 ∧ w0.heap.size ≤ r6 ∧ w0.heap.size ≤ b4
  ne : r5 ≠ r6 ∧ b4 ≠ r5 ∧ b4 ≠ r6
section
variable {w0 wr w' : World} {r5 r6 b4 : Nat} {f5 f6 : Int → Option Int} {cs4 : Array Value} {T : TypeId}
theorem FnSt.callB (h : FnSt w0 r5 r6 b4 f5 f6 cs4 T wr) (hb : Below wr.heap.size wr w') : FnSt w0 r5 r6 b4 f5 f6 cs4 T w' := ⟨h.bel.trans (hb.mono h.bel.size), h.m5.callB hb, h.m6.callB hb, h.b.callB hb, h.lo, h.ne⟩
theorem FnSt.alloc (h : FnSt w0 r5 r6 b4 f5 f6 cs4 T wr) (o : Obj) : FnSt w0 r5 r6 b4 f5 f6 cs4 T (wr.alloc o) := h.callB ((Below.refl _ _).alloc (Nat.le_refl _) o)
theorem FnSt.drewN (h : FnSt w0 r5 r6 b4 f5 f6 cs4 T wr) (q : Nat) : FnSt w0 r5 r6 b4 f5 f6 cs4 T (wr.drewN q) := h.callB (bdrewN (Below.refl _ _) q)
theorem FnSt.put5 (h : FnSt w0 r5 r6 b4 f5 f6 cs4 T wr) (k x : Int) : ∃ o, (∀ q, (Instr.mapUpdate 64 (.map (some r5)) (.int .i64 k) (.int .i64 x)).run Try.prog (wr.drewN q) = .ok () (setMap (wr.drewN q) r5 o)) ∧ ∀ q, FnSt w0 r5 r6 b4 (updF f5 k x) f6 cs4 T (setMap (wr.drewN q) r5 o) := by
  obtain ⟨o, h1, h2⟩ := h.m5.put k x
  have hd := fun q => h.drewN q
  exact ⟨o, h1, fun q => ⟨Below_grown (bdrewN h.bel q) (setMap_grown _ r5 o) h.lo.1, h2 _ (setMap_same o h.m5.lt), ((hd q).m6).grown (setMap_grown _ r5 o) h.ne.1.symm, Blk.grown (hd q).b (setMap_grown _ r5 o) h.ne.2.1, h.lo, h.ne⟩⟩
theorem FnSt.put6 (h : FnSt w0 r5 r6 b4 f5 f6 cs4 T wr) (k x : Int) : ∃ o, (∀ q, (Instr.mapUpdate 64 (.map (some r6)) (.int .i64 k) (.int .i64 x)).run Try.prog (wr.drewN q) = .ok () (setMap (wr.drewN q) r6 o)) ∧ ∀ q, FnSt w0 r5 r6 b4 f5 (updF f6 k x) cs4 T (setMap (wr.drewN q) r6 o) := by
  obtain ⟨o, h1, h2⟩ := h.m6.put k x
  have hd := fun q => h.drewN q
  exact ⟨o, h1, fun q => ⟨Below_grown (bdrewN h.bel q) (setMap_grown _ r6 o) h.lo.2.1, ((hd q).m5).grown (setMap_grown _ r6 o) h.ne.1, h2 _ (setMap_same o h.m6.lt), Blk.grown (hd q).b (setMap_grown _ r6 o) h.ne.2.2, h.lo, h.ne⟩⟩
end
end Go.Proofs.Ythnmglckhfajeaa
