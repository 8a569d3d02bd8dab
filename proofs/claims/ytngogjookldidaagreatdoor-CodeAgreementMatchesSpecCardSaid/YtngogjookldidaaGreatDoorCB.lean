/- Ranging over maps inside a fence; the iterator of maps.Keys and slices.Collect, at maps keyed by pairs. slices.Collect(maps.Keys(m)) at maps keyed by pairs. The library's sort on a row that the call owns: what the row holds ahead of it and behind it; sorted lists. slices.SortedFunc over the keys of a map of pairs. Conditions: the keys are not negative. Confusions: the plain law. The walk of Confusions, the program's side. Conditions: none beyond what the claim form gives. -/
import Derived.Test.YtngogjookldidaaGreatDoorCA
import Derived.RangeFuncNested
import Derived.RangeFuncBound
import Derived.RangeFuncCalls
import Derived.RangeFuncLeaves
import Derived.RangeFuncBox
import Derived.Shelf.Abstract
import Derived.WalkKit
import Derived.OwnWalkIn
import Derived.TacticsInMore
import Derived.LoopNIn
import Derived.LoopIn
import Derived.Sort.MapsRangeIn
import Derived.Maps.AppendAt
import Derived.Test.YtngogjookldidaaGreatDoorLB
import Derived.Shelf.SlSortCmp.WholeK
import Derived.Shelf.SlSortCmp.NoneTotal
import Derived.Test.YtngogjookldidaaGreatDoorSh4
import Derived.Deep.RegionLaw
import Derived.Deep.AppendLies
namespace Go.Proofs.YtngogjookldidaaGreatDoor
open Go.RowKit Go.Shelf
set_option linter.unusedVariables false
set_option linter.unusedSimpArgs false
attribute [local go_sem] Oper.semAt_some
section
variable {F : Fence} {n : Nat} {P : Program} {w : World} {κ α : Type} [DecidableEq κ] [KeyV κ] {vr : α → Value → Prop} {b r : Nat} {M : List (κ × α)} {S : List κ} {ops : Array Oper} {rest : List Oper} {o : Oper} {a : Act} {Q : Exit → Act → World → Prop}
theorem wpListIn_range_W (hg : o.guard = none) (m : Operand) {T kt et : TypeId} (hop : o.op = Op.range T m) (hm : a.eval m = .map (some b)) (ht : P.underlying T = some (.map kt et)) {ob : Obj} (hb : w.heap[b]? = some ob) (hM : MapO vr ob M)
    (hK : ∀ w', RngW vr w' b w.heap.size M ([] : List κ) → Below w.heap.size w w' → w'.heap.size = w.heap.size + 1 → wpListIn F n P ops Q rest (a.put o.dst (.pointer (some ⟨w.heap.size, 0, none⟩))) w') : wpListIn F n P ops Q (o :: rest) a w := by
  refine wpListIn_plain hg fun K' hK' => ?_
  obtain ⟨o', hrun, hr⟩ := RngW.start (P := P) (w := w) ht hb hM
  unfold Oper.wpIn
  refine ⟨?_, ?_⟩
  · simp [Oper.about, hop]
  · rw [Oper.semAt_plain F _ _ (by rw [hop]; intro c hc'; cases hc')]
    simp [execOp, hop, hm, hrun, Result.andThen]
    exact hK' _ _ (hK _ hr ((Below.refl _ _).alloc (Nat.le_refl _) _) (by simp))
theorem wpListIn_next_W (hg : o.guard = none) (it : Operand) (hop : o.op = Op.next it false) (hit : a.eval it = .pointer (some ⟨r, 0, none⟩)) (h : RngW vr w b r M S)
    (hDone : (∀ k x, (k, x) ∈ M → k ∈ S) → wpListIn F n P ops Q rest (a.put o.dst (.tuple #[.bool false])) w)
    (hMore : ∀ (k : κ) (x : α) (v : Value) (w' : World), (k, x) ∈ M → k ∉ S → vr x v → RngW vr w' b r M (k :: S) → w.grownBy w' (some r) → w'.heap.size = w.heap.size → w'.rangeLeft b r < w.rangeLeft b r → (Instr.entry (.pointer (some ⟨r, 0, none⟩))).run P w' = .ok (.tuple #[KeyV.v k, v]) w' →
      wpListIn F n P ops Q rest (a.put o.dst (.tuple #[.bool true, KeyV.v k, v])) w') : wpListIn F n P ops Q (o :: rest) a w := by
  refine wpListIn_plain hg fun K' hK' => ?_
  unfold Oper.wpIn
  refine ⟨by simp [Oper.about, hop], ?_⟩
  rw [Oper.semAt_plain F _ _ (by rw [hop]; intro c hc'; cases hc')]
  rcases h.next (P := P) o.type with ⟨h0, hrun⟩ | ⟨k, x, v, w', h1, h2, h3, hrun, h4, h5, h6, h7, h8⟩
  · simp [execOp, hop, hit, hrun, Result.andThen]
    exact hK' _ _ (hDone h0)
  · simp [execOp, hop, hit, hrun, Result.andThen]
    exact hK' _ _ (hMore k x v w' h1 h2 h3 h4 h5 h6 h7 h8)
theorem RngW.of_walks {w' : World} (h : RngW vr w b r M S) (hk : KeepsWalks w w') : RngW vr w' b r M S := by
  obtain ⟨es, clock, since, seen, c0, h1, h2, h3, h4⟩ := h
  exact ⟨es, clock, since, seen, c0, hk.same b _ h1 rfl, h2, hk.same r _ h3 rfl, h4⟩
theorem RngW.iter_walk (h : RngW vr w b r M S) : ∃ o : Obj, w.heap[r]? = some o ∧ o.isWalk = true := by
  obtain ⟨es, clock, since, seen, c0, h1, h2, h3, h4⟩ := h
  exact ⟨_, h3, rfl⟩
theorem RngW.nd (h : RngW vr w b r M S) : (M.map (·.1)).Nodup := by
  obtain ⟨es, clock, since, seen, c0, h1, h2, h3, h4⟩ := h
  exact h2.nodup
end
theorem nodup_lenC {α : Type} [DecidableEq α] : ∀ {a b : List α}, a.Nodup → (∀ x ∈ a, x ∈ b) → a.length ≤ b.length
  | [], b, _, _ => Nat.zero_le _
  | x :: a, b, hn, hs => by
    rw [List.nodup_cons] at hn
    have hx := hs x (by simp)
    have h := nodup_lenC (b := b.erase x) hn.2 (fun y hy => (List.mem_erase_of_ne (fun e => hn.1 (by rw [← e]; exact hy))).2 (hs y (by simp [hy])))
    rw [List.length_erase_of_mem hx] at h
    have := List.length_pos_of_mem hx
    rw [List.length_cons]; omega
set_option maxRecDepth 100000 in
set_option maxHeartbeats 1000000 in
/-- The iterator of maps.Keys: all keys come, each once; or a round has said 'no more'. -/
theorem keys1P (F : Fence) (n : Nat) (hf : F.fn 38) (hro : F.round = none) (hn : 1 ≤ n) (l Bm b : Nat) (M : List (Pr × Int)) (ob : Obj) (J Jx : List Pr → World → Prop)
    (hY : ∀ pre x W, J pre W → pre.length < M.length → YieldAt F (n - 1) Tryz.prog l #[KeyV.v x] W fun e W' =>
      (e = .returned (.bool true) ∧ J (pre ++ [x]) W' ∧ KeepsWalks W W') ∨ (e = .returned (.bool false) ∧ Jx (pre ++ [x]) W'))
    (W : World) (hJ : AbidesFrom W.heap.size J) (hm : W.cell? ⟨Bm, 0, none⟩ = some (.map (some b))) (hb : W.heap[b]? = some ob) (hM : MapO vI ob M) (h0 : J [] W) :
    CallsIn F n Tryz.prog 38 #[.func (.yield l) #[] #[], .pointer (some ⟨Bm, 0, none⟩)] W fun e W' => (∃ v, e = .returned v) ∧
      ((∃ ss : List Pr, ss.Perm (M.map (·.1)) ∧ J ss W') ∨ (∃ pre : List Pr, True ∧ Jx pre W')) := by
  refine callsIn_of_wp Tryz.func38 rfl hf ?_ hro
  simp only [Tryz.ntmps38, List.size_toArray, List.length_cons, List.length_nil, Nat.reduceAdd, Nat.reduceSub, Array.replicate_succ, Array.replicate_zero, List.push_toArray, List.append_toArray, List.nil_append, List.cons_append]
  gi_wp2_with (first
    | (gi_at_range; refine wpListIn_range_W rfl _ rfl rfl Tryz.underlying38 hb hM ?_; intro w0 hrg0 hg0 hs0)
    | gi_in)
  go_frame
  gi_loopw [] (fun wr => ∃ (ss : List Pr), RngW vI wr b W.heap.size M ss.reverse ∧ ss.Nodup ∧ (∀ x ∈ ss, x ∈ M.map (·.1)) ∧ J ss wr)
    (fun wr => wr.rangeLeft b W.heap.size)
  case atStart =>
    exact ⟨[], hrg0, List.nodup_nil, by simp, hJ [] W w0 none h0 ⟨hg0.os, hg0.tape, hg0.output, hg0.size, fun k hk _ => hg0.block k hk⟩ (fun r e => by cases e)⟩
  case round =>
    obtain ⟨ss, hrg, hnd, hin, hJs⟩ := hrel
    gi_wp2_with (first
      | (gi_at_next; refine wpListIn_next_W rfl _ rfl rfl hrg ?_ ?_)
      | gi_in)
    · intro hdone
      gi_wp2
      go_end0
      refine ⟨⟨_, rfl⟩, .inl ⟨ss, ?_, hJs⟩⟩
      rw [List.perm_ext_iff_of_nodup hnd hrg.nd]
      intro x
      refine ⟨hin x, fun hx => ?_⟩
      obtain ⟨p, hp, rfl⟩ := List.mem_map.1 hx
      simpa using hdone p.1.1 p.1.2 p.2 hp
    · intro k1 k2 x v w2 hkx hkS hv hrg2 hg2 hs2 hlt hen
      have hJ2 : J ss w2 := hJ ss wr w2 (some W.heap.size) hJs hg2 (fun r e => by cases e; exact ⟨Nat.le_refl _, hrg.iter_walk⟩)
      have hJ3 : J ss (w2.alloc (.cells #[.int .i64 k1, .int .i64 k2] 43)) := hJ ss w2 _ none hJ2 (World.grownBy_alloc _ _ none) (fun r e => by cases e)
      have hkn : (k1, k2) ∉ ss := by simpa using hkS
      have hnd2 : (ss ++ [(k1, k2)]).Nodup := by
        rw [List.nodup_append]
        exact ⟨hnd, by simp, fun a ha c hc e => by simp at hc; subst hc; subst e; exact hkn ha⟩
      have hin2 : ∀ x ∈ ss ++ [(k1, k2)], x ∈ M.map (·.1) := fun y hy => by
        rcases List.mem_append.1 hy with h | h
        · exact hin y h
        · simp at h; subst h; exact List.mem_map.2 ⟨_, hkx, rfl⟩
      have hlen : ss.length < M.length := by
        have h := nodup_lenC hnd2 hin2
        rw [List.length_append, List.length_map] at h
        rw [List.length_singleton] at h
        omega
      obtain ⟨fn, tmps, assign, body, hy, hR⟩ := hY ss (k1, k2) _ hJ3 hlen
      replace hy : (Instr.yield l #[.agg #[.int .i64 k1, .int .i64 k2]]).run Tryz.prog (w2.alloc (.cells #[.int .i64 k1, .int .i64 k2] 43)) = .ok (.round l fn tmps assign body) (w2.alloc (.cells #[.int .i64 k1, .int .i64 k2] 43)) := hy
      replace hen : (Instr.entry (.pointer (some ⟨W.heap.size, 0, none⟩))).run Tryz.prog w2 = .ok (.tuple #[.agg #[.int .i64 k1, .int .i64 k2], v]) w2 := hen
      clear hs2
      show wpListIn F n Tryz.prog _ _ _ _ _
      gi_wp2
      refine hR.mono ?_
      rintro e W3 (⟨rfl, hJ3, hk3⟩ | ⟨rfl, hJx3⟩)
      · gi_wp2
        have hrg3 := (hrg2.of_walks (KeepsWalks.alloc _ _)).of_walks hk3
        go_roundw
        case rel => exact ⟨ss ++ [(k1, k2)], by simpa using hrg3, hnd2, hin2, hJ3⟩
        case measure => rw [hrg3.left, ← hrg2.left]; exact hlt
      · gi_wp2
        refine bodyPost_ret (results_none rfl _ _ _) rfl ?_
        exact ⟨⟨_, rfl⟩, .inr ⟨ss ++ [(k1, k2)], trivial, hJx3⟩⟩
end Go.Proofs.YtngogjookldidaaGreatDoor

namespace Go.Proofs.YtngogjookldidaaGreatDoor
open Go.RowKit Go.Shelf
set_option linter.unusedVariables false
set_option linter.unusedSimpArgs false
attribute [local go_sem] Oper.semAt_some
def pcs (p : Pr) : List Value := [.int .i64 p.1, .int .i64 p.2]
theorem cells_two_new (W : World) (x y : Value) (T : TypeId) : ∀ j u, [x, y][j]? = some u → (W.alloc (.cells #[x, y] T)).cell? ((⟨W.heap.size, 0, none⟩ : Addr).add j) = some u := by
  intro j u h
  have hb := Blk.new W #[x, y] T
  match j, h with
  | 0, h => cases h; exact hb.cell 0
  | 1, h => cases h; exact hb.cell 1
  | j + 2, h => simp at h
theorem infoP : (Tryz.prog.info? 43).map (fun i => (i.zero, i.size, i.bytes)) = some (some (.agg #[.int .i64 0, .int .i64 0]), 2, 16) := by kernel_rfl
/-- maps.Keys hands back an iterator over a box that holds the map. -/
theorem KeysP_any (r : Option Nat) (w : World) : Calls Tryz.prog 14 #[.map r] w fun e w' => e = .returned (.func (.func 38) #[] #[.pointer (some ⟨w.heap.size, 0, none⟩)]) ∧ w' = w.alloc (.cells #[.map r] 38) := by
  go_enter Tryz.func14, Tryz.ntmps14
  go_wp2
  go_ret
  exact ⟨rfl, rfl⟩
theorem keys_stopsP (F : Fence) (n : Nat) (hf : F.fn 38) (hro : F.round = none) (hn : 1 ≤ n) (Bm b : Nat) (M : List (Pr × Int)) (ob : Obj) (w : World) (hBm : Bm < w.heap.size) (hm : w.cell? ⟨Bm, 0, none⟩ = some (.map (some b))) (hb : w.heap[b]? = some ob) (hM : MapO vI ob M) :
    SeqStopsK F n Tryz.prog 38 #[.pointer (some ⟨Bm, 0, none⟩)] (fun p : Pr => #[Value.agg #[.int .i64 p.1, .int .i64 p.2]]) KeepsWalks (fun ss => ss.Perm (M.map (·.1))) (fun _ => True) M.length w := fun l J Jx W hW hJ _ hY h0 =>
  keys1P F n hf hro hn l Bm b M ob J Jx hY W hJ ((hW.cell (p := ⟨Bm, 0, none⟩) hBm).trans hm) ((hW.block b (Array.getElem?_eq_some_iff.1 hb).1).trans hb) hM h0
theorem row_not_walk {W : World} {base : Nat} {e : TypeId} {size : Nat} {v : Value} {k : Nat} {xs : List Value} (h : W.ownsRow base e size v k xs) : ∀ (j : Nat) (o : Obj), v.ownBlock = some j → W.heap[j]? = some o → o.isWalk = false := by
  intro j o hj ho
  rcases h.2 with ⟨rfl, _⟩ | ⟨g, cap, cur, rfl, _, hgb, _⟩
  · simp [Value.ownBlock] at hj
  · obtain rfl : g = j := by simpa [Value.ownBlock] using hj
    rw [hgb] at ho; cases ho; rfl
set_option maxRecDepth 100000 in
set_option maxHeartbeats 2000000 in
theorem AppendSeqP_in (F : Fence) (n : Nat) (hf : F.fn 61) (hro : F.round = none) (hn : 2 ≤ n) (g : Nat) (lb : Array Value) (hFg : F.fn g) (eg : ∀ args w, (callFunc g args).run Tryz.prog w = .ok (.enter g args) w) (S Sp : List Pr → Prop) (N : Nat) (hN : N ≤ maxLen) (hNb : N * 16 ≤ 140737488355328) (w w0 : World) (hw0 : Below w0.heap.size w0 w)
    (hseq : SeqStopsK F (n - 1) Tryz.prog g lb (fun p : Pr => #[Value.agg #[.int .i64 p.1, .int .i64 p.2]]) KeepsWalks S Sp N w0) :
    CallsIn F n Tryz.prog 61 #[.slice none 0 0, .func (.func g) #[] lb] w fun e w' => ∃ (v : Value) (ss : List Pr), e = .returned v ∧ S ss ∧ w'.ownsRow w.heap.size 43 2 v ss.length (ss.flatMap pcs) ∧ (v = .slice none 0 0 ↔ ss = []) ∧ Below w.heap.size w w' := by
  have h1 : 1 ≤ n := by omega
  obtain ⟨i0, hi, hz0, hz1, hz2⟩ := info_parts infoP
  refine callsIn_of_wp_marks Tryz.func61 rfl hf ?_ hro
  simp only [Tryz.ntmps61, List.size_toArray, List.length_cons, List.length_nil, Nat.reduceAdd, Nat.reduceSub, Array.replicate_succ, Array.replicate_zero, List.push_toArray, List.append_toArray, List.nil_append, List.cons_append]
  gi_wp2
  have bO := Boxed.new w 40 (.slice none 0 0)
  have hB0 : Below w.heap.size w (w.alloc (.cells #[.slice none 0 0] 40)) := (Below.refl _ w).alloc (Nat.le_refl _) _
  refine wpIn_rangeFunc_ownH hro h1 (gf := g) (lb := lb) rfl hFg eg hseq walksK_t walksK_b (hw0.trans (hB0.mono hw0.size)) (fun _ => rfl)
    (fun pre W => (∃ v, Boxed W w.heap.size 40 v ∧ W.ownsRow w.heap.size 43 2 v pre.length (pre.flatMap pcs) ∧ (v = .slice none 0 0 ↔ pre = [])) ∧ Below w.heap.size w W)
    (fun _ _ _ => False)
    (OwnFrom.and (Own.from (holdsRow_own w.heap.size w.heap.size 40 43 2 (fun pre : List Pr => pre.length) (fun pre : List Pr => pre.flatMap pcs) (fun pre v => v = .slice none 0 0 ↔ pre = [])) _) (ownFrom_below (Nat.le_refl _) (by simp)))
    (fun _ _ _ _ _ hs _ _ => hs)
    ⟨⟨_, bO, World.ownsRow_nil _ _ _ _, by simp⟩, hB0⟩
    (fun x a' W => ∃ Bx, w.heap.size < Bx ∧ W.heap[Bx]? = some (.cells #[.int .i64 x.1, .int .i64 x.2] 43 (0, 0)) ∧ a' = { tmps := #[.slice none 0 0, .func (.func g) #[] lb, .pointer (some ⟨w.heap.size, 0, none⟩), undef, .slice none 0 0, .pointer (some ⟨Bx, 0, none⟩), .func (.func g) #[] lb, .agg #[.int .i64 x.1, .int .i64 x.2], undef, undef, undef, undef, undef], defers := [] })
    (fun x a' s A B row hs hg hr => by
      obtain ⟨Bx, h1, h2, h3⟩ := hs
      refine ⟨Bx, h1, (hg.block Bx (Array.getElem?_eq_some_iff.1 h2).1 (fun e => ?_)).trans h2, h3⟩
      obtain ⟨_, ob, h4, h5⟩ := hr Bx e.symm
      rw [h2] at h4; cases h4; cases h5) ?assign ?body ?done ?stop
  case assign =>
    rintro l pre ⟨x1, x2⟩ W K ⟨⟨v, hv, hrow, hnil⟩, hB⟩ hK
    have hwl := hv.lt
    dsimp only
    gi_wp2
    exact hK _ _ ((KeepsOthers.alloc _ _).from _) (KeepsWalks.alloc _ _) ⟨⟨v, hv.alloc _, hrow.alloc _, hnil⟩, hB.alloc hB.size _⟩ ⟨W.heap.size, hwl, World.alloc_heap_new W _, rfl⟩
  case body =>
    rintro l pre ⟨x1, x2⟩ a' W hl ⟨r, hr⟩ ⟨⟨v, hv, hrow, hnil⟩, hB⟩ ⟨Bx, hBx, bX, rfl⟩ hlt
    have hc := hv.cell
    have hx0 : W.cell? ⟨Bx, 0, none⟩ = some (.int .i64 x1) := (show Blk W Bx #[.int .i64 x1, .int .i64 x2] 43 from bX).cell 0
    have hx1 : W.cell? ⟨Bx, 1, none⟩ = some (.int .i64 x2) := (show Blk W Bx #[.int .i64 x1, .int .i64 x2] 43 from bX).cell 1
    gi_wp2_with (gi_at_builtin; refine wpListIn_append_own _ rfl _ _ 40 rfl w.heap.size 43 i0 (.agg #[.int .i64 0, .int .i64 0]) 2 16 Tryz.underlying40 hi hz0 hz1 hz2 rfl (by decide) _ _ _ rfl (hrow.alloc _) ⟨W.heap.size, 0, none⟩ 1 1 [.int .i64 x1, .int .i64 x2] rfl rfl (cells_two_new _ _ _ _) (by simp [Value.oneCell']) (by omega) (by omega) (by have := hB.size; simp; omega) ?_; intro v' w1 hown' hgrow _; obtain ⟨g', cap', rfl⟩ := ownsRow_succ hown'; obtain ⟨hv1, hv2, hr2, hk2, hb2⟩ := hv.appended (by decide) hrow hB.size (Nat.le_refl _) hown' hgrow; have hc1 := hv1.cell; have hf1 := hv1.frozen)
    exact ⟨hk2.from _, ((KeepsWalks.alloc W _).trans (KeepsWalks.of_grownBy hgrow (row_not_walk (hrow.alloc _)))).trans (KeepsWalks.setCell _ _ _), ⟨_, hv2, by simpa [pcs] using hr2, by simp⟩, hB.trans hb2⟩
  case done =>
    rintro D ys W hD hS ⟨⟨v, hv, hrow, hnil⟩, hB⟩ hK
    have hc := hv.cell
    gi_wp2
    refine ⟨by simp, .inl ⟨_, _, rfl, run_takeDeferred hK, ?_⟩⟩
    exact ⟨_, results_tmp rfl _ _ _, v, ys, rfl, hS, ownsRow_putObj hrow _ hK rfl, hnil, hB.trans (belowK_b (w := w) (Nat.le_refl _) W D _ _ (by simp at hD; omega) hK rfl rfl)⟩
  case stop =>
    rintro D c pre W _ _ h _
    exact h.elim
theorem CollectP_any (n : Nat) (hn : 3 ≤ n) (g : Nat) (lb : Array Value) (eg : ∀ args w, (callFunc g args).run Tryz.prog w = .ok (.enter g args) w) (S Sp : List Pr → Prop) (N : Nat) (hN : N ≤ maxLen) (hNb : N * 16 ≤ 140737488355328) (w : World)
    (hseq : SeqStopsK Fence.wide (n - 1 - 1) Tryz.prog g lb (fun p : Pr => #[Value.agg #[.int .i64 p.1, .int .i64 p.2]]) KeepsWalks S Sp N w) :
    Calls Tryz.prog 36 #[.func (.func g) #[] lb] w fun e w' => ∃ (v : Value) (ss : List Pr), e = .returned v ∧ S ss ∧ w'.ownsRow w.heap.size 43 2 v ss.length (ss.flatMap pcs) ∧ (v = .slice none 0 0 ↔ ss = []) ∧ Below w.heap.size w w' := by
  have ha := (callsIn_wide (n := n - 1)).1 (AppendSeqP_in Fence.wide (n - 1) trivial rfl (by omega) g lb trivial eg S Sp N hN hNb w w (Below.refl _ _) hseq)
  go_enter Tryz.func36, Tryz.ntmps36
  go_wp2_with (go_at_call 61; refine ha.mono ?_; rintro e w' ⟨v, ss, rfl, hS, hrow, hnil, hb⟩)
  go_ret
  exact ⟨v, ss, rfl, hS, hrow, hnil, hb⟩
end Go.Proofs.YtngogjookldidaaGreatDoor

namespace Go.Proofs.YtngogjookldidaaGreatDoor
open Go.RowKit Go.Shelf Go.Lib Go.Sort
set_option linter.unusedVariables false
set_option linter.unusedSimpArgs false
section
variable {α : Type} {enc : α → List Value} {k : Nat}
theorem flatMap_at (hk : ∀ x, (enc x).length = k) : ∀ (l : List α) (i c : Nat) (h : i < l.length), c < k → (l.flatMap enc)[i * k + c]? = (enc l[i])[c]?
  | [], i, c, h, _ => by simp at h
  | x :: l, 0, c, h, hc => by
    rw [List.flatMap_cons, Nat.zero_mul, Nat.zero_add, List.getElem?_append_left (by rw [hk]; exact hc)]; rfl
  | x :: l, i + 1, c, h, hc => by
    rw [List.flatMap_cons, List.getElem?_append_right (by rw [hk, Nat.add_mul, Nat.one_mul]; omega), hk]
    have := flatMap_at hk l i c (by simpa using h) hc
    rw [show (i + 1) * k + c - k = i * k + c by rw [Nat.add_mul, Nat.one_mul]; omega, this]
    rfl
theorem flatMap_len (hk : ∀ x, (enc x).length = k) (l : List α) : (l.flatMap enc).length = l.length * k := by
  induction l with
  | nil => simp
  | cons x l ih => rw [List.flatMap_cons, List.length_append, ih, hk, List.length_cons, Nat.add_mul, Nat.one_mul]; omega
variable [Inhabited α]
theorem flatK_list (hk : ∀ x, (enc x).length = k) (l : List α) : (flatK enc k l.toArray).toList = l.flatMap enc := by
  apply List.ext_getElem?
  intro t
  by_cases ht : t < l.length * k
  · have hk0 : 0 < k := Nat.pos_of_ne_zero (fun e => by rw [e, Nat.mul_zero] at ht; omega)
    have hi : t / k < l.length := Nat.div_lt_of_lt_mul (by rw [Nat.mul_comm]; exact ht)
    have hc : t % k < k := Nat.mod_lt _ hk0
    have e : t / k * k + t % k = t := by rw [Nat.mul_comm]; exact Nat.div_add_mod t k
    have h := flatMap_at hk l (t / k) (t % k) hi hc
    rw [e] at h
    rw [h, Array.getElem?_toList, Array.getElem?_eq_getElem (by simpa using ht), List.getElem?_eq_getElem (by rw [hk]; exact hc)]
    congr 1
    have hg := get_flatK enc k l.toArray t (by simpa using ht)
    rw [getElem!_pos _ _ (by simpa using ht)] at hg
    rw [hg, show (l.toArray)[t / k]! = l[t / k] by rw [getElem!_pos _ _ (by simpa using hi)]; simp]
    rw [getElem!_pos _ _ (by rw [hk]; exact hc)]
  · rw [List.getElem?_eq_none (by simpa using Nat.not_lt.1 ht), List.getElem?_eq_none (by rw [flatMap_len hk]; omega)]
variable {w : World} {B g cap : Nat} {E : TypeId}
theorem own_holds (hk : ∀ x, (enc x).length = k) {l : List α} (h : w.ownsRow B E k (.slice (some ⟨g, 0, none⟩) l.length cap) l.length (l.flatMap enc)) : HoldsK enc k w g 0 l.toArray := by
  intro j hj
  have hj' : j < l.length * k := by simpa using hj
  rcases h.2 with ⟨h2, h3⟩ | ⟨g', c, cur, hv, hbg, hg, hnc, hcm, hcs, ht⟩
  · cases h2
  · cases hv
    refine ⟨?_, by simp [World.frozen?, hg]⟩
    have h1 : (cur.toList.take (l.length * k))[j]? = (l.flatMap enc)[j]? := by rw [ht]
    rw [List.getElem?_take_of_lt hj', ← flatK_list hk, Array.getElem?_toList, Array.getElem?_toList] at h1
    simp only [World.cell?, hg, Nat.zero_add]
    simp only [Option.isSome_none, Bool.false_eq_true, if_false]
    rw [h1, Array.getElem?_eq_getElem hj, getElem!_pos (flatK enc k l.toArray) j hj]
    rfl
theorem own_sorted (hk : ∀ x, (enc x).length = k) {l : List α} (h : w.ownsRow B E k (.slice (some ⟨g, 0, none⟩) l.length cap) l.length (l.flatMap enc)) (m : Nat) (os : Array Obj) {l' : List α} (hl : l'.length = l.length) :
    (sortWorldK enc k w g 0 m l'.toArray os).ownsRow B E k (.slice (some ⟨g, 0, none⟩) l.length cap) l.length (l'.flatMap enc) ∧ w.grownBy (sortWorldK enc k w g 0 m l'.toArray os) (some g) := by
  rcases h.2 with ⟨h2, h3⟩ | ⟨g', c, cur, hv, hbg, hg, hnc, hcm, hcs, ht⟩
  · cases h2
  · cases hv
    have hgl : g < w.heap.size := (Array.getElem?_eq_some_iff.1 hg).1
    refine ⟨⟨by rw [flatMap_len hk, hl], .inr ⟨g, cap, putCells id 0 (flatK enc k l'.toArray) cur, rfl, hbg, ?_, hnc, hcm, by simp [putCells, hcs], ?_⟩⟩, rfl, rfl, rfl, ?_, fun j hj hne => ?_⟩
    · unfold sortWorldK putRowK
      rw [heap_grow_old _ _ (by simpa [putRow, mapBlock, Sort.ahead] using hgl)]
      simp [putRow, mapBlock, Sort.ahead, Array.getElem?_modify, hg, onCells]
    · rw [← flatK_list hk]
      have hle : l.length * k ≤ cur.size := by rw [hcs]; exact Nat.mul_le_mul_right _ hnc
      have hsz : (flatK enc k l'.toArray).size = l.length * k := by rw [size_flatK]; simp [hl]
      apply List.ext_getElem?
      intro j
      by_cases hj : j < l.length * k
      · rw [List.getElem?_take_of_lt hj, Array.getElem?_toList, Array.getElem?_toList]
        unfold putCells
        rw [Array.getElem?_mapIdx, Array.getElem?_eq_getElem (by omega), Option.map_some, if_pos ⟨Nat.zero_le _, by omega⟩, Array.getElem?_eq_getElem (by omega), getElem!_pos _ _ (by omega)]
        rfl
      · rw [List.getElem?_take_eq_none (by omega), List.getElem?_eq_none (by simp only [Array.length_toList]; omega)]
    · unfold sortWorldK putRowK
      simp [grow, putRow, mapBlock, Sort.ahead]
    · unfold sortWorldK putRowK
      rw [heap_grow_old _ _ (by simpa [putRow, mapBlock, Sort.ahead] using hj)]
      have : g ≠ j := fun e => hne (by rw [e])
      simp [putRow, mapBlock, Sort.ahead, Array.getElem?_modify, this]
end
/-- What the sort gives, as lists. -/
theorem sorted_list {α : Type} [Inhabited α] {lt : α → α → Bool} {l : List α} {d' : Array α} (hp : PermIn 0 l.toArray.size l.toArray d') (hs : SortedIn lt 0 l.toArray.size d') :
    d'.toList.Perm l ∧ d'.toList.Pairwise (fun x y => lt y x = false) := by
  obtain ⟨h1, _, h3⟩ := hp
  have hz : l.toArray.size = d'.size := h1.symm
  refine ⟨?_, ?_⟩
  · have e1 : d'.extract 0 l.toArray.size = d' := by rw [hz]; simp
    have e2 : l.toArray.extract 0 l.toArray.size = l.toArray := by simp
    rw [e1, e2] at h3
    simpa using h3
  · rw [List.pairwise_iff_getElem]
    intro i j hi hj hij
    have hi' : i < d'.size := by simpa using hi
    have hj' : j < d'.size := by simpa using hj
    have h := hs i j (Nat.zero_le _) hij (by omega)
    rw [getElem!_pos d' i hi', getElem!_pos d' j hj'] at h
    simpa using h
/-- Two lists that rise strictly and have the same members are one. -/
theorem rising_eq {α : Type} {r : α → α → Prop} (ha : ∀ x y, r x y → ¬ r y x) : ∀ {l l' : List α}, l.Pairwise r → l'.Pairwise r → (∀ x, x ∈ l ↔ x ∈ l') → l = l'
  | [], [], _, _, _ => rfl
  | [], y :: l', _, _, h => by have := (h y).2 (by simp); simp at this
  | x :: l, [], _, _, h => by have := (h x).1 (by simp); simp at this
  | x :: l, y :: l', h1, h2, h => by
    rw [List.pairwise_cons] at h1 h2
    have hir : ∀ z, ¬ r z z := fun z hz => ha z z hz hz
    have hxy : x = y := by
      rcases List.mem_cons.1 ((h x).1 (by simp)) with e | e
      · exact e
      · rcases List.mem_cons.1 ((h y).2 (by simp)) with e' | e'
        · exact e'.symm
        · exact absurd (h2.1 x e) (ha _ _ (h1.1 y e'))
    subst hxy
    congr 1
    refine rising_eq ha h1.2 h2.2 (fun z => ⟨fun hz => ?_, fun hz => ?_⟩)
    · rcases List.mem_cons.1 ((h z).1 (by simp [hz])) with e | e
      · subst e; exact absurd (h1.1 z hz) (hir z)
      · exact e
    · rcases List.mem_cons.1 ((h z).2 (by simp [hz])) with e | e
      · subst e; exact absurd (h2.1 z hz) (hir z)
      · exact e
end Go.Proofs.YtngogjookldidaaGreatDoor

namespace Go.Proofs.YtngogjookldidaaGreatDoor
open Go.RowKit Go.Shelf Go.Lib Go.Sort
set_option linter.unusedVariables false
set_option linter.unusedSimpArgs false
abbrev okS (p : Pr) : Prop := 0 ≤ p.1 ∧ p.1 ≤ 9223372036854775807 ∧ 0 ≤ p.2 ∧ p.2 ≤ 9223372036854775807
abbrev SPr := { p : Pr // okS p }
instance : Inhabited SPr := ⟨⟨(0, 0), by decide⟩⟩
def encS (x : SPr) : List Value := pcs x.1
def cfS (x y : SPr) : Int := if x.1.1 ≠ y.1.1 then x.1.1 - y.1.1 else x.1.2 - y.1.2
def ltP (p q : Pr) : Prop := p.1 < q.1 ∨ (p.1 = q.1 ∧ p.2 < q.2)
instance (p q : Pr) : Decidable (ltP p q) := inferInstanceAs (Decidable (_ ∨ _))
theorem ltS (x y : SPr) : ltOf cfS x y = decide (ltP x.1 y.1) := by
  unfold ltOf cfS ltP
  by_cases h : x.1.1 = y.1.1
  · rw [if_neg (by simp [h])]
    exact decide_eq_decide.2 ⟨fun q => .inr ⟨h, by omega⟩, fun q => by rcases q with q | q <;> omega⟩
  · rw [if_pos h]
    exact decide_eq_decide.2 ⟨fun q => .inl (by omega), fun q => by rcases q with q | q <;> omega⟩
theorem swoS : SWO (ltOf cfS) where
  irrefl x := by rw [ltS]; simp [ltP]
  trans x y z h1 h2 := by
    rw [ltS, decide_eq_true_iff] at *
    unfold ltP at *
    omega
  ntrans x y z h1 h2 := by
    rw [ltS, decide_eq_false_iff_not] at *
    unfold ltP at *
    omega
theorem cmpS_any (x y : SPr) (W : World) : Calls Tryz.prog 15 #[.agg #[.int .i64 x.1.1, .int .i64 x.1.2], .agg #[.int .i64 y.1.1, .int .i64 y.1.2]] W fun e w' => e = .returned (.int .i64 (cfS x y)) ∧ w' = (W.alloc (.cells #[.int .i64 x.1.1, .int .i64 x.1.2] 43)).alloc (.cells #[.int .i64 y.1.1, .int .i64 y.1.2] 43) := by
  obtain ⟨⟨x1, x2⟩, h1, h2, h3, h4⟩ := x
  obtain ⟨⟨y1, y2⟩, k1, k2, k3, k4⟩ := y
  have hc : Hid (cfS ⟨(x1, x2), h1, h2, h3, h4⟩ ⟨(y1, y2), k1, k2, k3, k4⟩ = if x1 ≠ y1 then x1 - y1 else x2 - y2) := Lib.hid rfl
  rw [hc.out]
  dsimp only at *
  clear hc
  by_cases h : x1 = y1
  · have hg : ((x1 : Int) != y1) = false := by simp [h]
    rw [if_neg (by simp [h])]
    clear h
    go_enter Tryz.func15, Tryz.ntmps15
    go_wp2
    go_ret
    exact ⟨rfl, rfl⟩
  · have hg : ((x1 : Int) != y1) = true := by simp [h]
    rw [if_pos h]
    clear h
    go_enter Tryz.func15, Tryz.ntmps15
    go_wp2
    go_ret
    exact ⟨rfl, rfl⟩
theorem cmpLaysS (blk off size : Nat) (w : World) : CmpLays Tryz.prog 15 #[] encS 2 cfS blk off size w := by
  intro m os dk hs x y
  refine (cmpS_any x y _).mono ?_
  rintro e w' ⟨rfl, rfl⟩
  exact ⟨rfl, 0, _, by rw [alloc_eq_grow, alloc_eq_grow, grow_grow]; rfl⟩
theorem SortFuncP_any {w : World} {B g cap : Nat} {l : List SPr} (h : w.ownsRow B 43 2 (.slice (some ⟨g, 0, none⟩) l.length cap) l.length (l.flatMap encS)) (hl : l.length ≤ 20000) :
    Calls Tryz.prog 37 #[.slice (some ⟨g, 0, none⟩) l.length cap, .func (.func 15) #[] #[]] w fun e w' => e = .returned (.tuple #[]) ∧ ∃ l' : List SPr, l'.Perm l ∧ l'.Pairwise (fun x y => ltOf cfS y x = false) ∧ w'.ownsRow B 43 2 (.slice (some ⟨g, 0, none⟩) l.length cap) l.length (l'.flatMap encS) ∧ w.grownBy w' (some g) := by
  have eg : ∀ args w, (callFunc 15 args).run Tryz.prog w = .ok (.enter 15 args) w := enters_of Tryz.func15 (by kernel_rfl) rfl
  have hgl : g < w.heap.size := by
    rcases h.2 with ⟨h2, h3⟩ | ⟨g', c, cur, hv, hbg, hg, _⟩
    · cases h2
    · cases hv; exact (Array.getElem?_eq_some_iff.1 hg).1
  have hcon := AnyQ.slices_SortFunc Tryz.sortP 2 Tryz.isAgg43 Tryz.sizeOf43 encS (fun _ => rfl) (fun x v hv => by simp [encS, pcs] at hv; rcases hv with rfl | rfl <;> rfl) cfS swoS 15 #[] g 0 cap l.toArray w eg (cmpLaysS g 0 _ w) (own_holds (k := 2) (enc := encS) (fun _ => rfl) h) hgl (by simp; omega)
  change Calls Tryz.prog 37 _ _ _ at hcon
  refine hcon.mono ?_
  rintro e w' ⟨rfl, d', n, os, hp, hs, rfl⟩
  obtain ⟨q1, q2⟩ := sorted_list hp hs
  obtain ⟨s1, s2⟩ := own_sorted (k := 2) (enc := encS) (fun _ => rfl) h n os (l' := d'.toList) q1.length_eq
  exact ⟨rfl, d'.toList, q1, q2, s1, s2⟩
theorem SortFuncNil_any (w : World) (fv : Value) : Calls Tryz.prog 37 #[.slice none 0 0, fv] w fun e w' => e = .returned (.tuple #[]) ∧ w' = w :=
  AnyF.slices_SortFunc_none Tryz.sortP none 0 fv w
theorem repL_pcs (φ : Phi) : ∀ l : List Pr, RepL φ l (l.flatMap pcs)
  | [] => rfl
  | p :: l => ⟨pcs p, l.flatMap pcs, rfl, ⟨[.int .i64 p.1], [.int .i64 p.2], rfl, rfl, rfl⟩, repL_pcs φ l⟩
theorem subs {ss : List Pr} (h : ∀ p ∈ ss, okS p) : ∃ l : List SPr, l.map (·.1) = ss := by
  induction ss with
  | nil => exact ⟨[], rfl⟩
  | cons p ss ih =>
    obtain ⟨l, hl⟩ := ih (fun q hq => h q (by simp [hq]))
    exact ⟨⟨p, h p (by simp)⟩ :: l, by rw [List.map_cons, hl]⟩
theorem flat_sub (l : List SPr) : l.flatMap encS = (l.map (·.1)).flatMap pcs := by
  rw [List.flatMap_map]; rfl
theorem strict_of {l : List SPr} (hn : l.Nodup) (hs : l.Pairwise (fun x y => ltOf cfS y x = false)) : (l.map (·.1)).Pairwise ltP := by
  rw [List.pairwise_map]
  refine (List.Pairwise.and hn hs).imp ?_
  rintro x y ⟨hne, hlt⟩
  rw [ltS, decide_eq_false_iff_not] at hlt
  have hne' : x.1 ≠ y.1 := fun e => hne (Subtype.ext e)
  unfold ltP at *
  have : ¬ (x.1.1 = y.1.1 ∧ x.1.2 = y.1.2) := fun ⟨a, b⟩ => hne' (Prod.ext a b)
  omega
/-- The keys in order. -/
theorem SortedP_any {w : World} {φ : Phi} (hφ : Fz φ w) {Bm b : Nat} {M : List (Pr × Int)} {ob : Obj} (hBm : Bm < w.heap.size) (hm : w.cell? ⟨Bm, 0, none⟩ = some (.map (some b))) (hb : w.heap[b]? = some ob) (hM : MapO vI ob M) (hk : ∀ p ∈ M.map (·.1), okS p) (hl : M.length ≤ 20000) :
    Calls Tryz.prog 13 #[.func (.func 38) #[] #[.pointer (some ⟨Bm, 0, none⟩)], .func (.func 15) #[] #[]] w fun e w' => ∃ (a : Option Addr) (cap : Nat) (ks : List Pr) (φ' : Phi), e = .returned (.slice a ks.length cap) ∧ Inv w.heap.size w φ φ' w' ∧ SlV φ' a cap ks ∧ (∀ p, p ∈ ks ↔ p ∈ M.map (·.1)) ∧ ks.Pairwise ltP := by
  have eg : ∀ args w, (callFunc 38 args).run Tryz.prog w = .ok (.enter 38 args) w := enters_of Tryz.func38 (by kernel_rfl) rfl
  have hC := CollectP_any 6 (by omega) 38 #[.pointer (some ⟨Bm, 0, none⟩)] eg (fun ss => ss.Perm (M.map (·.1))) (fun _ => True) M.length (by unfold maxLen; omega) (by omega) w (keys_stopsP Fence.wide _ trivial rfl (by omega) Bm b M ob w hBm hm hb hM)
  have hnd := hM.nodup
  have HK := Lib.hid hk
  clear hk
  go_enter Tryz.func13, Tryz.ntmps13
  go_wp2_with fail
  refine hC.mono ?_
  rintro e w1 ⟨v, ss, rfl, hS, hrow, hnil, hb1⟩
  by_cases h0 : ss = []
  · obtain rfl := hnil.2 h0
    subst h0
    clear hC hrow hnil hm hb hM
    go_wp2_with (go_at_call 37; refine (SortFuncNil_any _ _).mono ?_; rintro e w' ⟨rfl, rfl⟩)
    go_ret
    exact ⟨none, 0, [], φ, rfl, (Inv.start hφ).callB hb1, SlV.empty _, fun p => hS.mem_iff, List.Pairwise.nil⟩
  · obtain ⟨l, hl2⟩ := subs (ss := ss) (fun p hp => HK.out p (hS.mem_iff.1 hp))
    have hll : ss.length = l.length := by rw [← hl2, List.length_map]
    have hle : l.length ≤ 20000 := by have := hS.length_eq; rw [List.length_map] at this; omega
    have hln : l.Nodup := by
      have h1 : ss.Nodup := hS.nodup_iff.2 hnd
      rw [← hl2] at h1
      exact List.Pairwise.of_map _ (fun a b h e => h (by rw [e])) h1
    rw [← hl2, List.length_map, ← flat_sub] at hrow
    obtain ⟨g, cap, rfl⟩ : ∃ g cap, v = .slice (some ⟨g, 0, none⟩) l.length cap := by
      rcases hrow.2 with ⟨h2, h3⟩ | ⟨g, cap, cur, hv, _⟩
      · exact absurd (List.eq_nil_of_length_eq_zero (by omega)) h0
      · exact ⟨g, cap, hv⟩
    have hlt := hrow.lt g rfl
    have hsf := SortFuncP_any hrow hle
    have HH := Lib.hid (And.intro hS hl2)
    clear hC hm hb hM h0 hnil hS hl2 hrow
    go_wp2_with (go_at_call 37; refine hsf.mono ?_; rintro e w2 ⟨rfl, l', hp, hs, hrow2, hg2⟩)
    go_ret
    have hbel : Below w.heap.size w w2 := hb1.grown hg2 hb1.size (fun k e => by cases e; exact hlt.1)
    have hlen : (l'.map (·.1)).length = l.length := by rw [List.length_map]; exact hp.length_eq
    have hO : Own w.heap.size φ w2 43 (some ⟨g, 0, none⟩) cap (l'.map (·.1)) := ⟨⟨_, by rw [flat_sub] at hrow2; rw [hlen]; exact hrow2, repL_pcs φ _⟩, fun x hx => by cases hx; exact hφ.new_none hlt.1⟩
    obtain ⟨φ', h1, h2, h3, _⟩ := hO.release ⟨hbel, rfl, hφ.below hbel, φ.le_refl, fun _ _ => rfl⟩
    refine ⟨some ⟨g, 0, none⟩, cap, l'.map (·.1), φ', by rw [hlen]; rfl, h2, h3, fun p => ?_, strict_of (hp.nodup_iff.2 hln) hs⟩
    rw [← HH.out.1.mem_iff, ← HH.out.2]
    exact (hp.map _).mem_iff
end Go.Proofs.YtngogjookldidaaGreatDoor

namespace Go.Proofs.YtngogjookldidaaGreatDoor
set_option linter.unusedVariables false
set_option linter.unusedSimpArgs false
theorem cods_rise {l : List Nod} {n : Nat} (h : FrOk l n) : (l.map (·.1)).Pairwise (· < ·) := by
  have key : ∀ d i, i + d + 1 < n → cod l i < cod l (i + d + 1) := by
    intro d
    induction d with
    | zero => intro i hi; have := h.inc (i + 1) (by omega) (by omega); simpa using this
    | succ d ih =>
      intro i hi
      have h1 := ih i (by omega)
      have h2 := h.inc (i + d + 1 + 1) (by omega) (by omega)
      rw [Nat.add_sub_cancel] at h2
      exact Int.lt_trans h1 h2
  rw [List.pairwise_iff_getElem]
  intro i j hi hj hij
  rw [List.length_map] at hi hj
  have hl := h.len
  have := key (j - i - 1) i (by omega)
  rw [show i + (j - i - 1) + 1 = j by omega] at this
  unfold cod at this
  rw [getD_elem0 _ _ _ hi, getD_elem0 _ _ _ hj] at this
  rw [List.getElem_map, List.getElem_map]
  exact this
theorem ix_cod {l : List Nod} {c : Int} (h : (ix l c).isSome = true) : c ∈ l.map (·.1) := by
  obtain ⟨i, hi⟩ := Option.isSome_iff_exists.1 h
  obtain ⟨h1, h2⟩ := ixTo_some hi
  rw [← h2]
  unfold cod
  rw [getD_elem0 _ _ _ h1]
  exact List.mem_map.2 ⟨_, List.getElem_mem _, rfl⟩
theorem pickC_mem {a : Int} {g : List Cdg} (h : pickC a g ≠ 0) : ∃ x ∈ g, x.2.2 = pickC a g := by
  have key : ∀ (g : List Cdg) (s : Int), g.foldl (fun s x => if x.2.1 = a then x.2.2 else s) s = s ∨ ∃ x ∈ g, x.2.2 = g.foldl (fun s x => if x.2.1 = a then x.2.2 else s) s := by
    intro g
    induction g with
    | nil => intro s; exact .inl rfl
    | cons x g ih =>
      intro s
      rw [List.foldl_cons]
      rcases ih (if x.2.1 = a then x.2.2 else s) with e | ⟨y, hy, e⟩
      · rw [e]
        by_cases hx : x.2.1 = a
        · rw [if_pos hx]; exact .inr ⟨x, by simp, rfl⟩
        · rw [if_neg hx]; exact .inl rfl
      · exact .inr ⟨y, by simp [hy], e⟩
  rcases key g 0 with e | e
  · exact absurd e h
  · exact e
/-- The codes of pairs are codes of the frame. -/
theorem prs_cod {l : List Nod} {cs : List Cdg} (h : frcF l cs = 0) {n : Nat} (hn : cs.length = n) (a b : Int) : ∀ p ∈ prsL (grpK cs n) a b, p.1 ∈ l.map (·.1) ∧ p.2 ∈ l.map (·.1) := by
  have hv : ∀ x ∈ cs, (ix l x.2.2).isSome = true := by
    intro x hx
    obtain ⟨i, hi, rfl⟩ := List.getElem_of_mem hx
    have := (cdg_ok (Lib.hid rfl) h).2.2 i hi
    rwa [getD_elem0 _ _ _ hi] at this
  intro p hp
  unfold prsL at hp
  obtain ⟨hp, ho⟩ := List.mem_filter.1 hp
  obtain ⟨g, hg, rfl⟩ := List.mem_map.1 hp
  have hgc := ((grpK_ok cs n (by omega)).1 g hg).2.2
  unfold okP pairG at ho
  rw [Bool.and_eq_true, decide_eq_true_iff, decide_eq_true_iff] at ho
  obtain ⟨x, hx, e1⟩ := pickC_mem ho.1
  obtain ⟨y, hy, e2⟩ := pickC_mem ho.2
  unfold pairG
  dsimp only at *
  rw [← e1, ← e2]
  exact ⟨ix_cod (hv x (hgc x hx)), ix_cod (hv y (hgc y hy))⟩
def crossL (l : List Nod) (L : List Pr) : List Pr := (l.flatMap (fun x => l.map (fun y => ((x.1, y.1) : Pr)))).filter (fun p => decide (0 < cnt1 L p))
theorem cross_rise {l : List Nod} {n : Nat} (h : FrOk l n) (L : List Pr) : (crossL l L).Pairwise ltP := by
  have hr := cods_rise h
  rw [List.pairwise_map] at hr
  unfold crossL
  refine List.Pairwise.filter _ ?_
  rw [List.pairwise_flatMap]
  refine ⟨fun x _ => ?_, hr.imp ?_⟩
  · rw [List.pairwise_map]
    exact hr.imp (fun {a b} hab => .inr ⟨rfl, hab⟩)
  · intro a b hab x hx y hy
    obtain ⟨u, _, rfl⟩ := List.mem_map.1 hx
    obtain ⟨v, _, rfl⟩ := List.mem_map.1 hy
    exact .inl hab
theorem cross_mem {l : List Nod} {L : List Pr} (hL : ∀ p ∈ L, p.1 ∈ l.map (·.1) ∧ p.2 ∈ l.map (·.1)) (p : Pr) : p ∈ crossL l L ↔ p ∈ L := by
  unfold crossL
  rw [List.mem_filter, List.mem_flatMap]
  constructor
  · rintro ⟨_, h⟩
    have h : 0 < cnt1 L p := by simpa using h
    obtain ⟨x, hx, rfl⟩ := cntP_mem h
    exact hx
  · intro h
    obtain ⟨h1, h2⟩ := hL p h
    obtain ⟨x, hx, e1⟩ := List.mem_map.1 h1
    obtain ⟨y, hy, e2⟩ := List.mem_map.1 h2
    refine ⟨⟨x, hx, List.mem_map.2 ⟨y, hy, ?_⟩⟩, ?_⟩
    · rw [e1, e2]
    · exact decide_eq_true (show 0 < cnt1 L p from cntP_pos (fun q => q = p) h rfl)
theorem ltP_asym (x y : Pr) (h : ltP x y) : ¬ ltP y x := by unfold ltP at *; omega
theorem keys_cross {l : List Nod} {n : Nat} (h : FrOk l n) {L ks : List Pr} (hL : ∀ p ∈ L, p.1 ∈ l.map (·.1) ∧ p.2 ∈ l.map (·.1)) (hm : ∀ p, p ∈ ks ↔ p ∈ L) (hs : ks.Pairwise ltP) : ks = crossL l L :=
  rising_eq ltP_asym hs (cross_rise h L) (fun p => by rw [hm, cross_mem hL])
def conE (L : List Pr) (p : Pr) : Cdg := (p.1, p.2, (cnt1 L p : Int))
/-- Confusions and their error. -/
noncomputable def conF (l : List Nod) (cs : List Cdg) (a b : Int) : List Cdg × Int := if bthF l cs a b ≠ 0 then ([], bthF l cs a b) else ((crossL l (prsL (grpK cs cs.length) a b)).map (conE (prsL (grpK cs cs.length) a b)), 0)
theorem bth_frc {l : List Nod} {cs : List Cdg} {a b : Int} (h : bthF l cs a b = 0) : frcF l cs = 0 := by
  unfold bthF at h
  by_cases hf : frcF l cs = 0
  · exact hf
  · rw [if_pos hf] at h; exact absurd h hf
theorem frc_ok {l : List Nod} {cs : List Cdg} (h : frcF l cs = 0) : FrOk l l.length := by
  have ht := (cdg_ok (Lib.hid rfl) h).2.1
  unfold treeF at ht
  refine nodesF_zero ?_
  by_cases hn : nodesF l = 0
  · exact hn
  · rw [if_pos hn] at ht; exact ht
end Go.Proofs.YtngogjookldidaaGreatDoor

namespace Go.Proofs.YtngogjookldidaaGreatDoor
open Go.RowKit
set_option linter.unusedVariables false
set_option linter.unusedSimpArgs false
theorem slCon : SliceTy Tryz.prog 24 30 (.agg #[.int .i64 0, .int .i64 0, .int .i64 0]) (Rep.size Cdg) 24 := ⟨Tryz.underlying24, by kernel_rfl, rfl, by decide, by decide⟩
theorem SlV.prsD {φ : Phi} {a : Option Addr} {cap : Nat} {xs : List Pr} (h : SlV φ a cap xs) {k n : Nat} (hn : Hid (xs.length = n)) (hk : k < n) :
    ∃ b off, a = some ⟨b, off, none⟩ ∧ ∀ k, k < n → ∀ w, Fz φ w → b < w.heap.size ∧ w.cell? ⟨b, off + k * 2, none⟩ = some (.int .i64 (xs.getD k (0, 0)).1) ∧ w.cell? ⟨b, off + k * 2 + 1, none⟩ = some (.int .i64 (xs.getD k (0, 0)).2) := by
  obtain ⟨b, off, ha, hc⟩ := h.cellsD (0, 0) hn hk
  refine ⟨b, off, ha, fun k hk w hw => ?_⟩
  obtain ⟨cs, ⟨c, d, rfl, h1, h2⟩, hj⟩ := hc k hk
  cases h1; cases h2
  have j0 := hj 0 (by simp)
  have j1 := hj 1 (by simp)
  simp [Rep.size] at j0 j1
  exact ⟨hw.lt j0, hw.cell j0, hw.cell j1⟩
/-- A map of the call's own is frozen. -/
theorem Inv.frzMap {B : Nat} {w0 w : World} {φ0 φ : Phi} (hi : Inv B w0 φ0 φ w) {g : Nat} {o : Obj} (hk : w.heap[g]? = some o) (hg : B ≤ g) (hn : φ g = none) : ∃ φ', φ.le φ' ∧ Inv B w0 φ0 φ' w ∧ φ' g = some o := by
  refine ⟨φ.upd g o, φ.le_upd _ _ hn, ⟨hi.bel, hi.base, hi.fz.upd hk, hi.le.trans (φ.le_upd _ _ hn), fun b hb => ?_⟩, by unfold Phi.upd; rw [if_pos rfl]⟩
  unfold Phi.upd
  rw [if_neg (by omega)]
  exact hi.new b hb
set_option maxRecDepth 100000 in
set_option maxHeartbeats 2000000 in
theorem Confusions_any {w : World} {a : Option Addr} {c n : Nat} {l : List Nod} {φ : Phi} (hφ : Fz φ w) (s : SlV φ a c l) (hn : Hid (l.length = n)) (hm : n ≤ 9223372036854775807) {ac : Option Addr} {cc nc : Nat} {cs : List Cdg} (sc : SlV φ ac cc cs) (hnc : Hid (cs.length = nc)) (hmc : nc ≤ 9223372036854775807) (x y : Int) :
    Calls Tryz.prog 4 #[.slice a n c, .slice ac nc cc, .int .i64 x, .int .i64 y] w (SlPost (conF l cs x y) φ w) := by
  have HFZ := Lib.hid hφ
  obtain ⟨eb, heb⟩ : ∃ q, Hid (bthF l cs x y = q) := ⟨_, Lib.hid rfl⟩
  by_cases h0 : eb = 0
  case neg =>
    have hg : ((eb : Int) != 0) = true := by simp [h0]
    have hR : Hid (conF l cs x y = ([], eb)) := Lib.hid (by rw [conF, heb.out, if_pos h0])
    clear h0
    go_enter Tryz.func4, Tryz.ntmps4
    go_wp2_with fail
    refine (both_any hφ s hn hm sc hnc hmc x y).mono ?_
    rintro e w1 ⟨rfl, hb1⟩
    rw [heb.out]
    go_wp2
    go_ret2
    exact ⟨none, 0, φ, by rw [hR.out]; rfl, (Inv.start HFZ.out).callB hb1, by rw [hR.out]; exact SlV.empty _⟩
  subst h0
  have hfc := Lib.hid (bth_frc heb.out)
  have hok := Lib.hid (frc_ok hfc.out)
  have hn2 : nc ≤ 20000 := (cdg_ok hnc hfc.out).1
  have hcd := Lib.hid (prs_cod hfc.out hnc.out x y)
  have hLl : (prsL (grpK cs nc) x y).length ≤ 20000 := by
    have h1 := prsL_len (grpK cs nc) x y
    have h2 := (grpK_ok cs nc (by rw [hnc.out]; omega)).2.1
    omega
  have hR : Hid (conF l cs x y = ((crossL l (prsL (grpK cs nc) x y)).map (conE (prsL (grpK cs nc) x y)), 0)) := Lib.hid (by rw [conF, heb.out, if_neg (by simp), hnc.out])
  obtain ⟨L, hLL⟩ : ∃ L, Hid (prsL (grpK cs nc) x y = L) := ⟨_, Lib.hid rfl⟩
  rw [hLL.out] at hcd hLl hR
  have hokS : Hid (∀ p ∈ L, okS p) := Lib.hid (fun p hp => by
    obtain ⟨h1, h2⟩ := hcd.out p hp
    have hb : ∀ q ∈ l.map (·.1), 0 ≤ q ∧ q ≤ 9223372036854775807 := by
      intro q hq
      obtain ⟨i, hi, rfl⟩ := List.getElem_of_mem hq
      rw [List.length_map] at hi
      have := hok.out.rng i hi
      unfold cod at this
      rw [getD_elem0 _ _ _ hi] at this
      rw [List.getElem_map]
      omega
    exact ⟨(hb _ h1).1, (hb _ h1).2, (hb _ h2).1, (hb _ h2).2⟩)
  go_enter Tryz.func4, Tryz.ntmps4
  go_wp2_with fail
  refine (both_any hφ s hn hm sc hnc hmc x y).mono ?_
  rintro e w1 ⟨rfl, hb1⟩
  rw [heb.out]
  have I1 := Lib.hid ((Inv.start hφ).callB hb1)
  clear hb1
  go_wp2_with fail
  refine (common_any I1.out.fz sc hnc hn2 x y).mono ?_
  rintro e w2 ⟨r, rfl, hm2, hb2, hr2⟩
  rw [hLL.out] at hm2
  have I2 := Lib.hid (I1.out.callB hb2)
  obtain ⟨ob, M, hob, hMO, hMg⟩ := hm2
  have hrB : w.heap.size ≤ r := Nat.le_trans I1.out.bel.size hr2
  have hmem : Hid (∀ p, p ∈ M.map (·.1) ↔ p ∈ L) := Lib.hid (fun p => by
    constructor
    · intro hp
      obtain ⟨q, hq, rfl⟩ := List.mem_map.1 hp
      have h1 := mget_of_mem hMO.nodup (k := q.1) (x := q.2) hq
      rw [hMg] at h1
      obtain ⟨h2, _⟩ := cnF_some h1
      obtain ⟨z, hz, rfl⟩ := cntP_mem h2
      exact hz
    · intro hp
      have h1 : mget M p = some _ := (hMg p).trans (cnF_pos' (cntP_pos (fun q => q = p) hp rfl))
      exact List.mem_map.2 ⟨_, mem_of_mget h1, rfl⟩)
  have hMl : M.length ≤ 20000 := by
    have h := nodup_lenC hMO.nodup (fun p hp => (hmem.out p).1 hp)
    rw [List.length_map] at h
    omega
  have hφr : φ r = none := hφ.new_none hrB
  obtain ⟨φ2, le2, i2, k2⟩ := I2.out.frzMap hob hrB hφr
  have L2 := Lib.hid le2
  have J2 := Lib.hid i2
  have K2 := Lib.hid k2
  have HMO := Lib.hid hMO
  have HMG := Lib.hid hMg
  clear hb2 I2 le2 i2 k2 hob hφr hMO hMg hr2
  have J3 := Lib.hid (J2.out.alloc (.cells #[.map (some r)] 38))
  have hbx := box_at (w := w2) (cs := #[.map (some r)]) (T := 38) 0
  have hsf := SortedP_any (w := w2.alloc (.cells #[.map (some r)] 38)) J3.out.fz (Bm := w2.heap.size) (by simp) hbx (J3.out.fz r ob K2.out) HMO.out (fun p hp => hokS.out p ((hmem.out p).1 hp)) hMl
  go_wp2_with (first
    | (go_at_call 14; refine (KeysP_any _ _).mono ?_; rintro e w3 ⟨rfl, rfl⟩)
    | (go_at_call 13; refine hsf.mono ?_; rintro e w4 ⟨ak, ck, ks, φ4, rfl, hi4, sk, hkm, hks⟩; have HK := Lib.hid (And.intro hkm hks); clear hkm hks))
  have hkk : Hid (ks = crossL l L) := Lib.hid (keys_cross hok.out hcd.out (fun p => (HK.out.1 p).trans (hmem.out p)) HK.out.2)
  have hkl : ks.length ≤ 20000 := by
    have h := nodup_lenC (a := ks) (b := L) (HK.out.2.imp (fun {a b} h e => by subst e; exact ltP_asym _ _ h h)) (fun p hp => (hmem.out p).1 ((HK.out.1 p).1 hp))
    omega
  have I4 := Lib.hid (J3.out.call hi4)
  have F4 := Lib.hid hi4.fz
  have L4 := Lib.hid hi4.le
  rw [← hkk.out] at hR
  obtain ⟨nk, hnk⟩ : ∃ nk, Hid (ks.length = nk) := ⟨_, Lib.hid rfl⟩
  rw [hnk.out] at hkl ⊢
  have hSt : Hid (OwSt w4 φ4 30 none 0 ((ks.take 0).map (conE L)) w4) := Lib.hid ⟨Inv.start hi4.fz, Own.nil _ _ _ _⟩
  clear hsf hbx hi4 J3
  go_wp2
  go_loopw [13, 33] (fun o i wr => ∃ (k : Nat) (ao : Option Addr) (co : Nat) (xs : List Cdg), k ≤ nk ∧ i = .int .i64 k ∧ o = .slice ao xs.length co ∧ Hid ((ks.take k).map (conE L) = xs) ∧ Hid (OwSt w4 φ4 30 ao co xs wr)) (fun _ i _ => nk - (intOf i).toNat)
  case atStart => exact ⟨0, none, 0, [], Nat.zero_le _, rfl, rfl, Lib.hid rfl, hSt⟩
  case round =>
    clear hSt
    obtain ⟨k, ao, co, xs, hk, rfl, rfl, hxs, hSt⟩ := hrel
    by_cases hlt : k < nk
    · obtain ⟨b, off, rfl, f⟩ := sk.prsD hnk hlt
      obtain ⟨hb, c1, c2⟩ := f k hlt wr hSt.out.inv.fz
      have htk := Lib.hid (take_snocD (0, 0) ks k nk hnk.out hlt)
      have hxl : xs.length ≤ 20000 := by rw [← hxs.out, List.length_map, List.length_take]; omega
      clear f
      generalize hX : ks.getD k (0, 0) = X at *
      obtain ⟨x1, x2⟩ := X
      dsimp only at c1 c2
      clear hX
      have hS2 := Lib.hid (OwSt.alloc hSt.out (.cells #[.int .i64 x1, .int .i64 x2] 43))
      have hK := Lib.hid (Blk.new wr #[.int .i64 x1, .int .i64 x2] 43)
      go_upto_region 10 with (fail)
      clear c1 c2 hb hSt
      generalize (wr.alloc (.cells #[.int .i64 x1, .int .i64 x2] 43)) = wj at *
      generalize wr.heap.size = bj at *
      have y0 : wj.cell? ⟨bj, 0, none⟩ = some (.int .i64 x1) := hK.out.cell 0
      have y1 : wj.cell? ⟨bj, 1, none⟩ = some (.int .i64 x2) := hK.out.cell 1
      have hmp : MapP wj r (cmF L) := ⟨ob, M, hS2.out.inv.fz r ob (L4.out _ _ K2.out), HMO.out, HMG.out⟩
      have l1 := hmp.look (x1, x2) wj rfl
      have l2 := hmp.look (x1, x2) wj.drew rfl
      have hget : (cmF L (x1, x2)).getD 0 = (cnt1 L (x1, x2) : Int) := cnF_getD _
      rw [hget] at l1 l2
      have hcE : Hid (conE L (x1, x2) = (x1, x2, (cnt1 L (x1, x2) : Int))) := Lib.hid rfl
      have hSd := Lib.hid (hS2.out.drewN 1)
      clear hmp hget
      generalize ((cnt1 L (x1, x2) : Nat) : Int) = cn at *
      have hS3 := Lib.hid (OwSt.alloc hS2.out (.cells #[.int .i64 x1, .int .i64 x2, .int .i64 cn] 30))
      go_wp2
      go_region_law ((refine step_appF (α := Cdg) (by rfl) _ _ _ (by rfl) slCon hS3.out.inv.drew ao co _ (by rfl) hS3.out.own.drew ⟨wj.heap.size, 0, none⟩ 1 [(x1, x2, cn)] [.int .i64 x1, .int .i64 x2, .int .i64 cn] 1 (by rfl) (by rfl) (RepL.single ⟨[.int .i64 x1], [.int .i64 x2, .int .i64 cn], rfl, rfl, [.int .i64 x2], [.int .i64 cn], rfl, rfl, rfl⟩) (World.news_of_block (cs := #[.int .i64 x1, .int .i64 x2, .int .i64 cn]) (t := 30) (fr := (0, 0)) (heap_alloc_new wj _)) (by show (xs.length + 1) * 24 ≤ 140737488355328; omega) ?_; intro a2 cap2 w5 hi5 hown5 hgr hf5; have hS5 : Hid (OwSt w4 φ4 30 a2 cap2 (xs ++ [(x1, x2, cn)]) w5) := Lib.hid ⟨hi5, hown5⟩; clear hi5 hown5 hgr hf5))
      all_goals
        go_wp2
        go_roundw
        case rel => exact ⟨k + 1, a2, cap2, xs ++ [(x1, x2, cn)], by omega, by go_num, by simp, Lib.hid (by rw [htk.out, List.map_append, hxs.out, List.map_singleton, hcE.out]), hS5⟩
        case measure => (simp [intOf] <;> omega)
    · obtain rfl : k = nk := by omega
      have ex : ks.take k = ks := by rw [← hnk.out, List.take_length]
      rw [ex] at hxs
      go_wp2
      go_ret2
      obtain ⟨φ', hle, hi, hs, _⟩ := hSt.out.own.release hSt.out.inv
      have hfin := I4.out.call hi
      exact ⟨ao, co, φ', by rw [hR.out, hxs.out]; rfl, ⟨hfin.bel, rfl, hfin.fz, hfin.le, hfin.new⟩, by rw [hR.out, hxs.out]; exact hs⟩
end Go.Proofs.YtngogjookldidaaGreatDoor
