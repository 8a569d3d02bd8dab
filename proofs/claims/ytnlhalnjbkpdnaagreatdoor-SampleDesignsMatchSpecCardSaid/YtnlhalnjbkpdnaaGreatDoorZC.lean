/- A map from numbers to clusters that a call makes: each cluster's box and its row of units are the call's own; the same frozen; maps of slices frozen. The walk of layerOf: the state, and how it turns. Conditions: none beyond what the claim form gives. -/
import Derived.Test.YtnlhalnjbkpdnaaGreatDoorZB
import Derived.Test.YtnlhalnjbkpdnaaGreatDoorLB
import Derived.Test.YtnlhalnjbkpdnaaGreatDoorZE
import Derived.Deep.RegionLaw
import Derived.Deep.AppendLies
namespace Go.Proofs.YtnlhalnjbkpdnaaGreatDoor
open Go.RowKit
set_option linter.unusedVariables false
set_option linter.unusedSimpArgs false
/-- Blocks of the call's own, frozen. -/
theorem Inv.frzQ {B : Nat} {w0 w : World} {φ0 φ : Phi} (hi : Inv B w0 φ0 φ w) (S : Nat → Prop) (hS : ∀ b, S b → φ b = .none ∧ B ≤ b) : ∃ φ', φ.le φ' ∧ Inv B w0 φ0 φ' w ∧ (∀ b, S b → φ' b = w.heap[b]?) ∧ (∀ b, ¬ S b → φ' b = φ b) := by
  classical
  obtain ⟨φ', hφ'⟩ : ∃ φ' : Phi, φ' = fun b => if S b then w.heap[b]? else φ b := ⟨_, rfl⟩
  have hin : ∀ b, S b → φ' b = w.heap[b]? := fun b hb => by rw [hφ']; exact if_pos hb
  have hout : ∀ b, ¬ S b → φ' b = φ b := fun b hb => by rw [hφ']; exact if_neg hb
  have hle : φ.le φ' := by
    intro b o hb
    by_cases hc : S b
    · rw [(hS b hc).1] at hb; cases hb
    · rw [hout b hc]; exact hb
  have hfz : Fz φ' w := by
    intro b o hb
    by_cases hc : S b
    · rw [hin b hc] at hb; exact hb
    · rw [hout b hc] at hb; exact hi.fz b o hb
  exact ⟨φ', hle, ⟨hi.bel, hi.base, hfz, hi.le.trans hle, fun b hb => by
    by_cases hc : S b
    · have := (hS b hc).2; omega
    · rw [hout b hc]; exact hi.new b hb⟩, hin, hout⟩
theorem Own.slv {α : Type} [Rep α] {B : Nat} {w0 w : World} {φ0 φ φ' : Phi} {E : TypeId} {a : Option Addr} {c : Nat} {xs : List α} (h : Own B φ w E a c xs) (hi : Inv B w0 φ0 φ w) (hle : φ.le φ') (hin : ∀ x, a = some x → φ' x.block = w.heap[x.block]?) : SlV φ' a c xs := by
  obtain ⟨φk, hlk, hik, hsk, hoth⟩ := h.release hi
  refine hsk.mono ?_
  intro b o hb
  by_cases hc : some b = a.map (·.block)
  · cases ha : a with
    | none => rw [ha] at hc; cases hc
    | some x =>
      rw [ha] at hc
      have e : b = x.block := Option.some.inj hc
      rw [e, hin x ha, ← e]
      exact hik.fz b o hb
  · rw [hoth b hc] at hb
    exact hle b o hb
/-- A map of slices that is frozen, block and rows. -/
structure GmQ {κ α : Type} [DecidableEq κ] [Key κ] [Rep α] (φ : Phi) (r : Nat) (hd : κ → Option Hdr) (f : κ → List α) : Prop where
  map : ∃ o M, φ r = some o ∧ MapO vH o M ∧ ∀ k : κ, mget M k = hd k
  none : ∀ k, hd k = none → f k = []
  row : ∀ k h, hd k = some h → SlV φ h.a h.c (f k) ∧ h.n = (f k).length
section
variable {κ α : Type} [DecidableEq κ] [Key κ] [Rep α] {E : TypeId} {B : Nat} {w0 w : World} {φ0 φ φ' : Phi} {r : Nat} {Rv : Nat → Prop} {hd : κ → Option Hdr} {f : κ → List α}
theorem GmQ.mono (h : GmQ φ r hd f) (hl : φ.le φ') : GmQ φ' r hd f := by
  obtain ⟨o, M, h1, h2⟩ := h.map
  exact ⟨⟨o, M, hl _ _ h1, h2⟩, h.none, fun k h' hk => ⟨(h.row k h' hk).1.mono hl, (h.row k h' hk).2⟩⟩
/-- The map and its rows are frozen. -/
theorem GrpW.frzQ (hi : Inv B w0 φ0 φ w) (h : GrpW E B φ w r Rv hd f) : ∃ φ', φ.le φ' ∧ Inv B w0 φ0 φ' w ∧ GmQ φ' r hd f := by
  obtain ⟨φ', hle, hI, hin, hout⟩ := hi.frzQ (fun b => b = r ∨ ∃ k h x, hd k = some h ∧ h.a = some x ∧ x.block = b) (fun b hb => by
    rcases hb with rfl | ⟨k, h', x, hk, hx, rfl⟩
    · exact ⟨h.fr, h.lo⟩
    · exact ⟨(h.row k h' hk).1.free x hx, ((h.row k h' hk).1.lt x hx).1⟩)
  refine ⟨φ', hle, hI, ?_, h.none, fun k h' hk => ⟨(h.row k h' hk).1.slv hi hle (fun x hx => hin _ (.inr ⟨k, h', x, hk, hx, rfl⟩)), (h.row k h' hk).2⟩⟩
  obtain ⟨o, M, h1, h2⟩ := h.map
  exact ⟨o, M, (hin r (.inl rfl)).trans h1, h2⟩
theorem GmQ.look {P : Program} {T kt et : TypeId} (h : GmQ φ r hd f) (ht : P.underlying T = some (.map kt et)) (hk : P.underlying kt = some (Key.d κ)) (hz : ∀ w, (zeroValue et).run P w = .ok (.slice .none 0 0) w) (k : κ) :
    ∃ a c, (∀ W, Fz φ W → (Instr.lookup T (.map (some r)) (KeyV.v k) false).run P W = .ok (.slice a (f k).length c) W) ∧ SlV φ a c (f k) := by
  obtain ⟨o, M, h1, h2, h3⟩ := h.map
  cases hh : hd k with
  | none =>
    refine ⟨.none, 0, fun W hW => ?_, by rw [h.none k hh]; exact SlV.empty φ⟩
    rcases run_lookup (P := P) (w := W) ht hk (hW r o h1) h2 k false (hz W) with ⟨x, v, q1, q2, q3⟩ | ⟨q1, q3⟩
    · rw [h3, hh] at q1; cases q1
    · rw [h.none k hh]; exact q3
  | some h' =>
    obtain ⟨g1, g2⟩ := h.row k h' hh
    refine ⟨h'.a, h'.c, fun W hW => ?_, g1⟩
    rcases run_lookup (P := P) (w := W) ht hk (hW r o h1) h2 k false (hz W) with ⟨x, v, q1, q2, q3⟩ | ⟨q1, q3⟩
    · rw [h3, hh] at q1; cases q1
      cases q2
      rw [← g2]; exact q3
    · rw [h3, hh] at q1; cases q1
end
theorem blkGr {w w' : World} {g r : Nat} {cs : Array Value} {T : TypeId} (h : Blk w g cs T) (hg : w.grownBy w' (some r)) (hne : g ≠ r) : Blk w' g cs T := (hg.block g h.lt (fun e => hne (Option.some.inj e))).trans h
/-- A cluster's box and its row. -/
structure Cl where
  b : Nat
  a : Option Addr
  c : Nat
def vC (b : Nat) (v : Value) : Prop := v = .pointer (some ⟨b, 0, none⟩)
def bkC (hd : Int → Option Cl) (p : Int × Bool) : Option Nat := (hd p.1).bind (fun h => if p.2 = true then h.a.map (·.block) else some h.b)
structure ClW (B : Nat) (φ : Phi) (w : World) (r : Nat) (Rv : Nat → Prop) (hd : Int → Option Cl) (sz : Int → Int) (rw : Int → List Unt) : Prop where
  map : ∃ o M, w.heap[r]? = some o ∧ MapO vC o M ∧ ∀ c : Int, mget M c = (hd c).map (·.b)
  none : ∀ c, hd c = none → sz c = 0 ∧ rw c = []
  box : ∀ c h, hd c = some h → Blk w h.b #[.int .i64 c, .int .i64 (sz c), .slice h.a (rw c).length h.c] 141
  row : ∀ c h, hd c = some h → Own B φ w 64 h.a h.c (rw c)
  blk : ∀ p x, bkC hd p = some x → B ≤ x ∧ φ x = .none ∧ x ≠ r ∧ ¬ Rv x
  inj : ∀ p q x, bkC hd p = some x → bkC hd q = some x → p = q
  lo : B ≤ r
  fr : φ r = .none
section
variable {B : Nat} {φ φ' : Phi} {w w' w0 : World} {φ0 : Phi} {r : Nat} {Rv Rv' : Nat → Prop} {hd : Int → Option Cl} {sz : Int → Int} {rw_ : Int → List Unt}
theorem ClW.lt (h : ClW B φ w r Rv hd sz rw_) : r < w.heap.size := by obtain ⟨o, M, h1, _⟩ := h.map; exact (Array.getElem?_eq_some_iff.1 h1).1
theorem ClW.blt (h : ClW B φ w r Rv hd sz rw_) {p : Int × Bool} {x : Nat} (hx : bkC hd p = some x) : x < w.heap.size := by
  obtain ⟨c, b⟩ := p
  unfold bkC at hx
  cases hh : hd c with
  | none => rw [hh] at hx; cases hx
  | some h' =>
    rw [hh] at hx
    cases b with
    | false =>
      have e : h'.b = x := by simpa using hx
      rw [← e]; exact (h.box c h' hh).lt
    | true =>
      cases ha : h'.a with
      | none => rw [Option.bind_some, if_pos rfl, ha] at hx; cases hx
      | some y =>
        rw [Option.bind_some, if_pos rfl, ha] at hx
        have e : y.block = x := by simpa using hx
        rw [← e]; exact ((h.row c h' hh).lt y ha).2
theorem bkC_b {c : Int} {h : Cl} (hh : hd c = some h) : bkC hd (c, false) = some h.b := by unfold bkC; rw [hh]; rfl
theorem bkC_a {c : Int} {h : Cl} {x : Addr} (hh : hd c = some h) (hx : h.a = some x) : bkC hd (c, true) = some x.block := by unfold bkC; rw [hh]; simp [hx]
theorem ClW.new (hi : Inv B w0 φ0 φ w) : ClW B φ (w.alloc (.map #[] 0)) w.heap.size Rv (fun _ => .none) (fun _ => 0) (fun _ => []) :=
  ⟨⟨_, [], heap_alloc_new w _, MapO.empty, fun _ => rfl⟩, fun _ _ => ⟨rfl, rfl⟩, fun _ _ h => (by cases h), fun _ _ h => (by cases h), fun p x h => (by cases h), fun p q x h => (by cases h), hi.size, hi.fz.new_none (Nat.le_refl _)⟩
/-- Where the map's block, the boxes and the rows are as they were. -/
theorem ClW.kept (h : ClW B φ w r Rv hd sz rw_) (hl : φ.le φ') (hn : ∀ b, b < w.heap.size → φ b = .none → φ' b = .none) (hr : w'.heap[r]? = w.heap[r]?) (hb : ∀ p x, bkC hd p = some x → w'.heap[x]? = w.heap[x]?) : ClW B φ' w' r Rv hd sz rw_ := by
  obtain ⟨o, M, h1, h2⟩ := h.map
  refine ⟨⟨o, M, hr.trans h1, h2⟩, h.none, fun c h' hc => (hb _ _ (bkC_b hc)).trans (h.box c h' hc), fun c h' hc => (h.row c h' hc).kept hl hn (fun x hx => hb _ _ (bkC_a hc hx)), fun p x hx => ?_, h.inj, h.lo, hn r h.lt h.fr⟩
  obtain ⟨q1, q2, q3, q4⟩ := h.blk p x hx
  exact ⟨q1, hn x (h.blt hx) q2, q3, q4⟩
theorem ClW.callB (h : ClW B φ w r Rv hd sz rw_) (hb : Below w.heap.size w w') : ClW B φ w' r Rv hd sz rw_ :=
  h.kept φ.le_refl (fun _ _ q => q) (hb.block r h.lt) (fun p x hx => hb.block _ (h.blt hx))
theorem ClW.call (h : ClW B φ w r Rv hd sz rw_) (hi : Inv w.heap.size w φ φ' w') : ClW B φ' w' r Rv hd sz rw_ :=
  h.kept hi.le (fun b hb hn => (hi.new b hb).trans hn) (hi.bel.block r h.lt) (fun p x hx => hi.bel.block _ (h.blt hx))
theorem ClW.other (h : ClW B φ w r Rv hd sz rw_) {g : Nat} (hg : w.grownBy w' (some g)) (hr : g ≠ r) (hv : Rv g) : ClW B φ w' r Rv hd sz rw_ :=
  h.kept φ.le_refl (fun _ _ q => q) (hg.block r h.lt (fun e => hr (Option.some.inj e).symm)) (fun p x hx => hg.block _ (h.blt hx) (fun e => (h.blk p x hx).2.2.2 (by rw [Option.some.inj e]; exact hv)))
theorem ClW.rv (h : ClW B φ w r Rv hd sz rw_) (hv : ∀ b, b < w.heap.size → Rv' b → Rv b) : ClW B φ w r Rv' hd sz rw_ :=
  ⟨h.map, h.none, h.box, h.row, fun p x hx => ⟨(h.blk p x hx).1, (h.blk p x hx).2.1, (h.blk p x hx).2.2.1, fun q => (h.blk p x hx).2.2.2 (hv _ (h.blt hx) q)⟩, h.inj, h.lo, h.fr⟩
/-- What a look-up gives. -/
theorem ClW.look (h : ClW B φ w r Rv hd sz rw_) (c : Int) : ∀ W, W.heap[r]? = w.heap[r]? → (Instr.lookup 241 (.map (some r)) (.int .i64 c) false).run Tryz.prog W = .ok (.pointer ((hd c).map (fun h => ⟨h.b, 0, .none⟩))) W := by
  intro W hW
  obtain ⟨o, M, h1, h2, h3⟩ := h.map
  rcases run_lookup (P := Tryz.prog) (w := W) Tryz.underlying241 Tryz.underlying3 (hW.trans h1) h2 c false (z := .pointer .none) (by kernel_rfl) with ⟨x, v, q1, q2, q3⟩ | ⟨q1, q3⟩
  · rw [h3] at q1
    cases hh : hd c with
    | none => rw [hh] at q1; cases q1
    | some h' =>
      rw [hh] at q1
      cases q1
      cases q2
      exact q3
  · rw [h3] at q1
    cases hh : hd c with
    | none => exact q3
    | some h' => rw [hh] at q1; cases q1
/-- A new cluster's box, and its key. -/
theorem ClW.add (h : ClW B φ w r Rv hd sz rw_) (hi : Inv B w0 φ0 φ w) {c : Int} (hc : hd c = .none) (hrv : ∀ b, Rv b → b < w.heap.size) :
    ∃ o, (∀ W, W.heap[r]? = w.heap[r]? → (Instr.mapUpdate 241 (.map (some r)) (.int .i64 c) (.pointer (some ⟨w.heap.size, 0, .none⟩))).run Tryz.prog W = .ok () (setMap W r o)) ∧ ClW B φ (setMap (w.alloc (.cells #[.int .i64 c, .int .i64 0, .slice .none 0 0] 141)) r o) r Rv (updK hd c (some ⟨w.heap.size, .none, 0⟩)) sz rw_ := by
  obtain ⟨o, M, h1, h2, h3⟩ := h.map
  have key := fun (W : World) (hW : W.heap[r]? = w.heap[r]?) => run_mapUpdate (P := Tryz.prog) (w := W) Tryz.underlying241 Tryz.underlying3 (hW.trans h1) h2 c (x := w.heap.size) (v := .pointer (some ⟨w.heap.size, 0, .none⟩)) rfl
  have hal : (w.alloc (.cells #[.int .i64 c, .int .i64 0, .slice .none 0 0] 141)).heap[r]? = w.heap[r]? := ((Below.refl w.heap.size w).alloc (Nat.le_refl _) _).block r h.lt
  have hlt2 : r < (w.alloc (.cells #[.int .i64 c, .int .i64 0, .slice .none 0 0] 141)).heap.size := Nat.lt_of_lt_of_le h.lt (by simp)
  have hA := h.callB ((Below.refl w.heap.size w).alloc (Nat.le_refl _) (.cells #[.int .i64 c, .int .i64 0, .slice .none 0 0] 141))
  have hset := setMap_grown (w.alloc (.cells #[.int .i64 c, .int .i64 0, .slice .none 0 0] 141)) r (putObj (Key.d Int) o (KeyV.v c) (.pointer (some ⟨w.heap.size, 0, .none⟩)))
  have hnc := h.none c hc
  have hltr := h.lt
  have hb : ∀ p x, bkC (updK hd c (some ⟨w.heap.size, .none, 0⟩)) p = some x → (p = (c, false) ∧ x = w.heap.size) ∨ (p.1 ≠ c ∧ bkC hd p = some x) := by
    rintro ⟨c', b⟩ x hx
    unfold bkC updK at hx
    dsimp only at hx
    by_cases e : c' = c
    · rw [if_pos e] at hx
      cases b with
      | false => exact .inl ⟨by rw [e], by simpa using hx.symm⟩
      | true => simp at hx
    · rw [if_neg e] at hx
      exact .inr ⟨e, hx⟩
  refine ⟨_, fun W hW => (key W hW).1, ⟨⟨_, _, setMap_same _ hlt2, (key w rfl).2, fun k' => ?_⟩, fun k' hk' => ?_, fun k' h' hk' => ?_, fun k' h' hk' => ?_, fun p x hx => ?_, fun p q x hp hq => ?_, h.lo, h.fr⟩⟩
  · rw [mget_mput]; unfold updK; split
    · rfl
    · exact h3 k'
  · unfold updK at hk'
    split at hk'
    · cases hk'
    · exact h.none k' hk'
  · unfold updK at hk'
    split at hk'
    · next e =>
      cases hk'
      rw [e, hnc.1, hnc.2]
      exact blkGr (Blk.new w _ _) hset (show w.heap.size ≠ r by omega)
    · next e =>
      exact blkGr (hA.box k' h' hk') hset (hA.blk _ _ (bkC_b hk')).2.2.1
  · unfold updK at hk'
    split at hk'
    · next e =>
      cases hk'
      rw [e, hnc.2]
      exact Own.nil _ _ _ _
    · next e => exact (hA.row k' h' hk').other hset (fun x hx e2 => (hA.blk _ _ (bkC_a hk' hx)).2.2.1 (Option.some.inj e2))
  · rcases hb p x hx with ⟨rfl, rfl⟩ | ⟨e, hx⟩
    · exact ⟨hi.size, hi.fz.new_none (Nat.le_refl _), by omega, fun q => by have := hrv _ q; omega⟩
    · exact h.blk p x hx
  · rcases hb p x hp with ⟨rfl, rfl⟩ | ⟨e, hx⟩
    · rcases hb q _ hq with ⟨rfl, _⟩ | ⟨e', hy⟩
      · rfl
      · have := h.blt hy; omega
    · rcases hb q _ hq with ⟨rfl, rfl⟩ | ⟨e', hy⟩
      · have := h.blt hx; omega
      · exact h.inj p q x hx hy
/-- A cluster has turned: its box, its row. -/
theorem ClW.upd (h : ClW B φ w r Rv hd sz rw_) {c : Int} {hc : Cl} (hh : hd c = some hc) {v : Int} {l : List Unt} {a' : Option Addr} {c' : Nat} (hfz : ∀ b, w.heap.size ≤ b → φ b = .none) (hB : B ≤ w.heap.size)
    (hr : w'.heap[r]? = w.heap[r]?) (hk : ∀ p x, p.1 ≠ c → bkC hd p = some x → w'.heap[x]? = w.heap[x]?) (hbx : Blk w' hc.b #[.int .i64 c, .int .i64 v, .slice a' l.length c'] 141) (ho : Own B φ w' 64 a' c' l) (hf : ∀ x, a' = some x → hc.a.map (·.block) = some x.block ∨ w.heap.size ≤ x.block) (hrv : ∀ b, Rv b → b < w.heap.size) :
    ClW B φ w' r Rv (updK hd c (some ⟨hc.b, a', c'⟩)) (updK sz c v) (updK rw_ c l) := by
  obtain ⟨o, M, h1, h2, h3⟩ := h.map
  have hltr := h.lt
  have hb : ∀ p x, bkC (updK hd c (some ⟨hc.b, a', c'⟩)) p = some x → (p.1 = c ∧ (bkC hd p = some x ∨ (p = (c, true) ∧ w.heap.size ≤ x))) ∨ (p.1 ≠ c ∧ bkC hd p = some x) := by
    rintro ⟨k, b⟩ x hx
    by_cases e : k = c
    · subst e
      refine .inl ⟨rfl, ?_⟩
      unfold bkC updK at hx
      dsimp only at hx
      rw [if_pos rfl] at hx
      cases b with
      | false => exact .inl (by rw [bkC_b hh]; simpa using hx)
      | true =>
        cases ha : a' with
        | none => rw [ha] at hx; simp at hx
        | some y =>
          rw [ha] at hx
          have e2 : y.block = x := by simpa using hx
          rcases hf y ha with q | q
          · refine .inl ?_
            unfold bkC
            rw [hh]
            simpa [e2] using q
          · exact .inr ⟨rfl, by omega⟩
    · refine .inr ⟨e, ?_⟩
      unfold bkC updK at hx
      dsimp only at hx
      rw [if_neg e] at hx
      exact hx
  refine ⟨⟨o, M, hr.trans h1, h2, fun k' => ?_⟩, fun k' hk' => ?_, fun k' h' hk' => ?_, fun k' h' hk' => ?_, fun p x hx => ?_, fun p q x hp hq => ?_, h.lo, h.fr⟩
  · rw [h3]
    unfold updK
    split
    · next e => rw [e, hh]; rfl
    · rfl
  · unfold updK at hk' ⊢
    split
    · next e => rw [if_pos e] at hk'; cases hk'
    · next e => rw [if_neg e] at hk'; exact h.none k' hk'
  · unfold updK at hk' ⊢
    split
    · next e => rw [if_pos e] at hk'; cases hk'; rw [e]; exact hbx
    · next e => rw [if_neg e] at hk'; exact (hk _ _ e (bkC_b hk')).trans (h.box k' h' hk')
  · unfold updK at hk' ⊢
    split
    · next e => rw [if_pos e] at hk'; cases hk'; exact ho
    · next e => rw [if_neg e] at hk'; exact (h.row k' h' hk').kept φ.le_refl (fun _ _ q => q) (fun x hx => hk _ _ e (bkC_a hk' hx))
  · rcases hb p x hx with ⟨_, hx | ⟨_, hx⟩⟩ | ⟨_, hx⟩
    · exact h.blk p x hx
    · exact ⟨by omega, hfz x hx, by omega, fun q => by have := hrv _ q; omega⟩
    · exact h.blk p x hx
  · rcases hb p x hp with ⟨e1, hx | ⟨e2, hx⟩⟩ | ⟨e1, hx⟩
    · rcases hb q x hq with ⟨f1, hy | ⟨f2, hy⟩⟩ | ⟨f1, hy⟩
      · exact h.inj p q x hx hy
      · have := h.blt hx; omega
      · exact h.inj p q x hx hy
    · rcases hb q x hq with ⟨f1, hy | ⟨f2, hy⟩⟩ | ⟨f1, hy⟩
      · have := h.blt hy; omega
      · rw [e2, f2]
      · have := h.blt hy; omega
    · rcases hb q x hq with ⟨f1, hy | ⟨f2, hy⟩⟩ | ⟨f1, hy⟩
      · exact h.inj p q x hx hy
      · have := h.blt hx; omega
      · exact h.inj p q x hx hy
/-- All clusters frozen. -/
structure ClF (φ : Phi) (r : Nat) (hd : Int → Option Cl) (sz : Int → Int) (rw_ : Int → List Unt) : Prop where
  map : ∃ o M, φ r = some o ∧ MapO vC o M ∧ ∀ c : Int, mget M c = (hd c).map (·.b)
  box : ∀ c h, hd c = some h → φ h.b = some (.cells #[.int .i64 c, .int .i64 (sz c), .slice h.a (rw_ c).length h.c] 141)
  row : ∀ c h, hd c = some h → SlV φ h.a h.c (rw_ c)
theorem ClF.mono (h : ClF φ r hd sz rw_) (hl : φ.le φ') : ClF φ' r hd sz rw_ := by
  obtain ⟨o, M, h1, h2⟩ := h.map
  exact ⟨⟨o, M, hl _ _ h1, h2⟩, fun c h' hc => hl _ _ (h.box c h' hc), fun c h' hc => (h.row c h' hc).mono hl⟩
theorem ClW.frz (hi : Inv B w0 φ0 φ w) (h : ClW B φ w r Rv hd sz rw_) : ∃ φ', φ.le φ' ∧ Inv B w0 φ0 φ' w ∧ ClF φ' r hd sz rw_ ∧ (∀ b, Rv b → b ≠ r → φ' b = φ b) := by
  obtain ⟨φ', hle, hI, hin, hout⟩ := hi.frzQ (fun b => b = r ∨ ∃ p, bkC hd p = some b) (fun b hb => by
    rcases hb with rfl | ⟨p, hp⟩
    · exact ⟨h.fr, h.lo⟩
    · exact ⟨(h.blk p b hp).2.1, (h.blk p b hp).1⟩)
  refine ⟨φ', hle, hI, ⟨?_, fun c h' hc => ?_, fun c h' hc => (h.row c h' hc).slv hi hle (fun x hx => hin _ (.inr ⟨_, bkC_a hc hx⟩))⟩, fun b hb hr => hout b (fun q => ?_)⟩
  · obtain ⟨o, M, h1, h2⟩ := h.map
    exact ⟨o, M, (hin r (.inl rfl)).trans h1, h2⟩
  · exact (hin _ (.inr ⟨_, bkC_b hc⟩)).trans (h.box c h' hc)
  · rcases q with q | ⟨p, hp⟩
    · exact hr q
    · exact (h.blk p b hp).2.2.2 hb
theorem ClF.look (h : ClF φ r hd sz rw_) {c : Int} {hc : Cl} (hh : hd c = some hc) : ∀ W, Fz φ W → (Instr.lookup 241 (.map (some r)) (.int .i64 c) false).run Tryz.prog W = .ok (.pointer (some ⟨hc.b, 0, .none⟩)) W := by
  intro W hW
  obtain ⟨o, M, h1, h2, h3⟩ := h.map
  rcases run_lookup (P := Tryz.prog) (w := W) Tryz.underlying241 Tryz.underlying3 (hW r o h1) h2 c false (z := .pointer .none) (by kernel_rfl) with ⟨x, v, q1, q2, q3⟩ | ⟨q1, q3⟩
  · rw [h3, hh] at q1
    cases q1
    cases q2
    exact q3
  · rw [h3, hh] at q1; cases q1
end
end Go.Proofs.YtnlhalnjbkpdnaaGreatDoor

namespace Go.Proofs.YtnlhalnjbkpdnaaGreatDoor
open Go.RowKit
set_option linter.unusedVariables false
set_option linter.unusedSimpArgs false
theorem grSet (w : World) (g off : Nat) (u : Value) : w.grownBy (w.setCell ⟨g, off, none⟩ u) (some g) := ⟨rfl, rfl, rfl, by simp [World.setCell], fun k _ hk => Below.heap_setCell _ _ _ _ (by intro e; exact hk (by rw [e]))⟩
/-- A result's cell, a layer in the making, its clusters. -/
structure LyS (w0 : World) (φ : Phi) (b4 b5 r : Nat) (nm : ByteArray) (a : Option Addr) (n c : Nat) (S : Int) (hd : Int → Option Cl) (sz : Int → Int) (rw_ : Int → List Unt) (W : World) : Prop where
  inv : Inv w0.heap.size w0 φ φ W
  k4 : Blk W b4 #[.string ⟨#[]⟩, .slice none 0 0, .int .i64 0, .slice none 0 0] 137
  k5 : Blk W b5 #[.string nm, .slice a n c, .int .i64 S, .slice none 0 0] 137
  cl : ClW w0.heap.size φ W r (fun b => b = b4 ∨ b = b5) hd sz rw_
  lo : w0.heap.size ≤ b4 ∧ w0.heap.size ≤ b5
  ne : b4 ≠ b5 ∧ b4 ≠ r ∧ b5 ≠ r
  fr : φ b4 = none ∧ φ b5 = none
section
variable {w0 W w' : World} {φ : Phi} {b4 b5 r : Nat} {nm : ByteArray} {a : Option Addr} {n c : Nat} {S : Int} {hd : Int → Option Cl} {sz : Int → Int} {rw_ : Int → List Unt}
theorem LyS.callB (h : LyS w0 φ b4 b5 r nm a n c S hd sz rw_ W) (hb : Below W.heap.size W w') : LyS w0 φ b4 b5 r nm a n c S hd sz rw_ w' :=
  ⟨h.inv.callB hb, h.k4.callB hb, h.k5.callB hb, h.cl.callB hb, h.lo, h.ne, h.fr⟩
theorem LyS.rvlt (h : LyS w0 φ b4 b5 r nm a n c S hd sz rw_ W) : ∀ b, (b = b4 ∨ b = b5) → b < W.heap.size := fun b hb => by
  rcases hb with rfl | rfl
  · exact h.k4.lt
  · exact h.k5.lt
theorem LyS.size (h : LyS w0 φ b4 b5 r nm a n c S hd sz rw_ W) (v : Int) : LyS w0 φ b4 b5 r nm a n c v hd sz rw_ (W.setCell ⟨b5, 2, none⟩ (.int .i64 v)) :=
  ⟨h.inv.setCell h.lo.2 h.fr.2 _, blkGr h.k4 (grSet _ _ _ _) h.ne.1, h.k5.set 2 _, h.cl.other (grSet _ _ _ _) h.ne.2.2 (.inr rfl), h.lo, h.ne, h.fr⟩
theorem LyS.add (h : LyS w0 φ b4 b5 r nm a n c S hd sz rw_ W) {k : Int} (hk : hd k = none) : ∃ o, (∀ V, V.heap[r]? = W.heap[r]? → (Instr.mapUpdate 241 (.map (some r)) (.int .i64 k) (.pointer (some ⟨W.heap.size, 0, none⟩))).run Tryz.prog V = .ok () (setMap V r o)) ∧ LyS w0 φ b4 b5 r nm a n c S (updK hd k (some ⟨W.heap.size, none, 0⟩)) sz rw_ (setMap (W.alloc (.cells #[.int .i64 k, .int .i64 0, .slice none 0 0] 141)) r o) := by
  obtain ⟨o, h1, h2⟩ := h.cl.add h.inv hk h.rvlt
  have g := setMap_grown (W.alloc (.cells #[.int .i64 k, .int .i64 0, .slice none 0 0] 141)) r o
  exact ⟨o, h1, (h.inv.alloc _).write h.cl.lo h.cl.fr g, blkGr (h.k4.alloc _) g h.ne.2.1, blkGr (h.k5.alloc _) g h.ne.2.2, h2, h.lo, h.ne, h.fr⟩
theorem LyS.far (h : LyS w0 φ b4 b5 r nm a n c S hd sz rw_ W) {p : Int × Bool} {x : Nat} (hx : bkC hd p = some x) : b4 ≠ x ∧ b5 ≠ x ∧ x ≠ r := by
  have q := h.cl.blk p x hx
  exact ⟨fun e => q.2.2.2 (.inl e.symm), fun e => q.2.2.2 (.inr e.symm), q.2.2.1⟩
theorem updK_self {β : Type} (f : Int → β) (k : Int) (x : β) (h : f k = x) : updK f k x = f := by
  funext k'
  unfold updK
  split
  · next e => rw [e, h]
  · rfl
/-- A cluster's size. -/
theorem LyS.csize (h : LyS w0 φ b4 b5 r nm a n c S hd sz rw_ W) {k : Int} {hc : Cl} (hk : hd k = some hc) (v : Int) : LyS w0 φ b4 b5 r nm a n c S hd (updK sz k v) rw_ (W.setCell ⟨hc.b, 1, none⟩ (.int .i64 v)) := by
  have hf := h.far (bkC_b hk)
  have hq := h.cl.blk _ _ (bkC_b hk)
  have g := grSet W hc.b 1 (.int .i64 v)
  have hu := h.cl.upd (w' := W.setCell ⟨hc.b, 1, none⟩ (.int .i64 v)) hk (v := v) (l := rw_ k) (a' := hc.a) (c' := hc.c) (fun b hb => h.inv.fz.new_none hb) h.inv.size (g.block r h.cl.lt (fun e => hf.2.2 (Option.some.inj e).symm)) (fun p x hp hx => g.block x (h.cl.blt hx) (fun e => hp (by
    have e2 := h.cl.inj p (k, false) x hx (by rw [bkC_b hk, Option.some.inj e])
    rw [e2]))) ((h.cl.box k hc hk).set 1 _) ((h.cl.row k hc hk).other g (fun x hx e => by
    have e2 := h.cl.inj (k, true) (k, false) x.block (bkC_a hk hx) (by rw [bkC_b hk, Option.some.inj e])
    cases e2)) (fun x hx => .inl (by rw [hx]; rfl)) h.rvlt
  rw [updK_self hd k _ hk, updK_self rw_ k _ rfl] at hu
  exact ⟨h.inv.setCell hq.1 hq.2.1 _, blkGr h.k4 g hf.1, blkGr h.k5 g hf.2.1, hu, h.lo, h.ne, h.fr⟩
/-- A cluster's row has grown. -/
theorem LyS.crow (h : LyS w0 φ b4 b5 r nm a n c S hd sz rw_ W) {k : Int} {hc : Cl} (hk : hd k = some hc) {a' : Option Addr} {c' : Nat} {l : List Unt} (hi : Inv w0.heap.size w0 φ φ w') (ho : Own w0.heap.size φ w' 64 a' c' l) (hg : W.grownBy w' (hc.a.map (·.block))) (hf : ∀ x, a' = some x → hc.a.map (·.block) = some x.block ∨ W.heap.size ≤ x.block) :
    LyS w0 φ b4 b5 r nm a n c S (updK hd k (some ⟨hc.b, a', c'⟩)) sz (updK rw_ k l) (w'.setCell ⟨hc.b, 2, none⟩ (.slice a' l.length c')) := by
  have hfb := h.far (bkC_b hk)
  have hq := h.cl.blk _ _ (bkC_b hk)
  have g := grSet w' hc.b 2 (.slice a' l.length c')
  have hne : ∀ x, x < W.heap.size → bkC hd (k, true) ≠ some x → w'.heap[x]? = W.heap[x]? := fun x hx hn => hg.block x hx (fun e => hn (by
    unfold bkC
    rw [hk]
    simpa using e.symm))
  have hnb : ∀ x, bkC hd (k, true) = some x → x ≠ b4 ∧ x ≠ b5 ∧ x ≠ r := fun x hx => ⟨fun e => (h.far hx).1 e.symm, fun e => (h.far hx).2.1 e.symm, (h.far hx).2.2⟩
  have hb1 : Blk w' hc.b #[.int .i64 k, .int .i64 (sz k), .slice hc.a (rw_ k).length hc.c] 141 := (hne hc.b (h.cl.blt (bkC_b hk)) (fun e => by
    have e2 := h.cl.inj _ _ _ e (bkC_b hk)
    cases e2)).trans (h.cl.box k hc hk)
  have hsz := hg.size
  have hu := h.cl.upd (w' := w'.setCell ⟨hc.b, 2, none⟩ (.slice a' l.length c')) hk (v := sz k) (l := l) (a' := a') (c' := c') (fun b hb => h.inv.fz.new_none hb) h.inv.size ((g.block r (Nat.lt_of_lt_of_le h.cl.lt hsz) (fun e => hfb.2.2 (Option.some.inj e).symm)).trans (hne r h.cl.lt (fun e => (hnb r e).2.2 rfl))) (fun p x hp hx => (g.block x (Nat.lt_of_lt_of_le (h.cl.blt hx) hsz) (fun e => hp (by
    have e2 := h.cl.inj p (k, false) x hx (by rw [bkC_b hk, Option.some.inj e])
    rw [e2]))).trans (hne x (h.cl.blt hx) (fun e => hp (by
    have e2 := h.cl.inj p (k, true) x hx e
    rw [e2])))) (hb1.set 2 _) (ho.other g (fun x hx e => by
    rcases hf x hx with q | q
    · have e1 : bkC hd (k, true) = some x.block := by
        unfold bkC
        rw [hk]
        simpa using q
      have e2 := h.cl.inj (k, true) (k, false) x.block e1 (by rw [bkC_b hk, Option.some.inj e])
      cases e2
    · have := h.cl.blt (bkC_b hk)
      have := Option.some.inj e
      omega)) hf h.rvlt
  rw [updK_self sz k _ rfl] at hu
  exact ⟨hi.setCell hq.1 hq.2.1 _, blkGr ((hne b4 h.k4.lt (fun e => (hnb _ e).1 rfl)).trans h.k4) g hfb.1, blkGr ((hne b5 h.k5.lt (fun e => (hnb _ e).2.1 rfl)).trans h.k5) g hfb.2.1, hu, h.lo, h.ne, h.fr⟩
end
end Go.Proofs.YtnlhalnjbkpdnaaGreatDoor
