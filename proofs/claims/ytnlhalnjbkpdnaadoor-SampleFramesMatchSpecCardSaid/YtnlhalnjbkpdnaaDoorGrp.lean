/- Maps of slices that a call makes (group by a key): each slice is the call's own. Conditions: none; plain Lean over the guide's library. -/
import Derived.Test.YtnlhalnjbkpdnaaDoorHdr
import Derived.Test.YtnlhalnjbkpdnaaDoorRng
namespace Go.Proofs.YtnlhalnjbkpdnaaDoor
open Go.RowKit
set_option linter.unusedVariables false
set_option linter.unusedSimpArgs false
def vH (x : Hdr) (v : Value) : Prop := v = .slice x.a x.n x.c
section
variable {κ α : Type} [DecidableEq κ] [Key κ] [Rep α]
/-- Block r is a map from keys to slices of the call's own: f; their headers: hd. No row lies in a block of Rv. -/
structure GrpW (E : TypeId) (B : Nat) (φ : Phi) (w : World) (r : Nat) (Rv : Nat → Prop) (hd : κ → Option Hdr) (f : κ → List α) : Prop where
  map : ∃ o M, w.heap[r]? = some o ∧ MapO vH o M ∧ ∀ k, mget M k = hd k
  none : ∀ k, hd k = .none → f k = []
  row : ∀ k h, hd k = some h → Own B φ w E h.a h.c (f k) ∧ h.n = (f k).length
  nm : ∀ k h x, hd k = some h → h.a = some x → x.block ≠ r ∧ ¬ Rv x.block
  nr : ∀ k k' h h' x y, k ≠ k' → hd k = some h → hd k' = some h' → h.a = some x → h'.a = some y → x.block ≠ y.block
  lo : B ≤ r
  fr : φ r = .none
def updK {β : Type} (f : κ → β) (k : κ) (x : β) : κ → β := fun k' => if k' = k then x else f k'
variable {E : TypeId} {B : Nat} {φ φ' : Phi} {w w' w0 : World} {r : Nat} {Rv Rv' : Nat → Prop} {hd : κ → Option Hdr} {f : κ → List α}
theorem GrpW.lt (h : GrpW E B φ w r Rv hd f) : r < w.heap.size := by obtain ⟨o, M, h1, _⟩ := h.map; exact (Array.getElem?_eq_some_iff.1 h1).1
theorem GrpW.new {φ0 : Phi} (hi : Inv B w0 φ0 φ w) : GrpW E B φ (w.alloc (.map #[] 0)) w.heap.size Rv (fun _ : κ => .none) (fun _ => ([] : List α)) :=
  ⟨⟨_, [], heap_alloc_new w _, MapO.empty, fun _ => rfl⟩, fun _ _ => rfl, fun _ _ h => (by cases h), fun _ _ _ h => (by cases h), fun _ _ _ _ _ _ _ h => (by cases h), hi.size, hi.fz.new_none (Nat.le_refl _)⟩
/-- Where the map's block, and the rows, are as they were. -/
theorem GrpW.kept (h : GrpW E B φ w r Rv hd f) (hl : φ.le φ') (hn : ∀ b, b < w.heap.size → φ b = .none → φ' b = .none) (hr : w'.heap[r]? = w.heap[r]?) (hb : ∀ k h' x, hd k = some h' → h'.a = some x → w'.heap[x.block]? = w.heap[x.block]?) : GrpW E B φ' w' r Rv hd f := by
  obtain ⟨o, M, h1, h2⟩ := h.map
  exact ⟨⟨o, M, hr.trans h1, h2⟩, h.none, fun k h' hk => ⟨(h.row k h' hk).1.kept hl hn (fun x hx => hb k h' x hk hx), (h.row k h' hk).2⟩, h.nm, h.nr, h.lo, hn r h.lt h.fr⟩
theorem GrpW.callB (h : GrpW E B φ w r Rv hd f) (hb : Below w.heap.size w w') : GrpW E B φ w' r Rv hd f :=
  h.kept φ.le_refl (fun _ _ q => q) (hb.block r h.lt) (fun k h' x hk hx => hb.block _ ((h.row k h' hk).1.lt x hx).2)
theorem GrpW.call (h : GrpW E B φ w r Rv hd f) (hi : Inv w.heap.size w φ φ' w') : GrpW E B φ' w' r Rv hd f :=
  h.kept hi.le (fun b hb hn => (hi.new b hb).trans hn) (hi.bel.block r h.lt) (fun k h' x hk hx => hi.bel.block _ ((h.row k h' hk).1.lt x hx).2)
/-- A write to a block that is reserved. -/
theorem GrpW.other (h : GrpW E B φ w r Rv hd f) {g : Option Nat} (hg : w.grownBy w' g) (hr : g ≠ some r) (hv : ∀ b, g = some b → Rv b) : GrpW E B φ w' r Rv hd f :=
  h.kept φ.le_refl (fun _ _ q => q) (hg.block r h.lt (fun e => hr e.symm)) (fun k h' x hk hx => hg.block _ ((h.row k h' hk).1.lt x hx).2 (fun e => (h.nm k h' x hk hx).2 (hv _ e.symm)))
/-- Other blocks reserved. -/
theorem GrpW.rv (h : GrpW E B φ w r Rv hd f) (hv : ∀ b, b < w.heap.size → Rv' b → Rv b) : GrpW E B φ w r Rv' hd f :=
  ⟨h.map, h.none, h.row, fun k h' x hk hx => ⟨(h.nm k h' x hk hx).1, fun q => (h.nm k h' x hk hx).2 (hv _ ((h.row k h' hk).1.lt x hx).2 q)⟩, h.nr, h.lo, h.fr⟩
section
variable {P : Program} {T kt et : TypeId}
/-- What a look-up gives. -/
theorem GrpW.look (h : GrpW E B φ w r Rv hd f) (ht : P.underlying T = some (.map kt et)) (hk : P.underlying kt = some (Key.d κ)) (hz : ∀ w, (zeroValue et).run P w = .ok (.slice .none 0 0) w) (k : κ) :
    ∃ a c, (∀ W, W.heap[r]? = w.heap[r]? → (Instr.lookup T (.map (some r)) (KeyV.v k) false).run P W = .ok (.slice a (f k).length c) W) ∧ Own B φ w E a c (f k) ∧ (hd k = some ⟨a, (f k).length, c⟩ ∨ (hd k = .none ∧ a = .none ∧ c = 0)) := by
  obtain ⟨o, M, h1, h2, h3⟩ := h.map
  cases hh : hd k with
  | none =>
    refine ⟨.none, 0, fun W hW => ?_, by rw [h.none k hh]; exact Own.nil _ _ _ _, .inr ⟨rfl, rfl, rfl⟩⟩
    rcases run_lookup (P := P) (w := W) ht hk (hW.trans h1) h2 k false (hz W) with ⟨x, v, q1, q2, q3⟩ | ⟨q1, q3⟩
    · rw [h3, hh] at q1; cases q1
    · rw [h.none k hh]; exact q3
  | some h' =>
    obtain ⟨g1, g2⟩ := h.row k h' hh
    refine ⟨h'.a, h'.c, fun W hW => ?_, g1, .inl (by rw [← g2])⟩
    rcases run_lookup (P := P) (w := W) ht hk (hW.trans h1) h2 k false (hz W) with ⟨x, v, q1, q2, q3⟩ | ⟨q1, q3⟩
    · rw [h3, hh] at q1; cases q1
      cases q2
      rw [← g2]; exact q3
    · rw [h3, hh] at q1; cases q1
/-- A key's row has grown, and is stored. -/
theorem GrpW.put (h : GrpW E B φ w r Rv hd f) (ht : P.underlying T = some (.map kt et)) (hk : P.underlying kt = some (Key.d κ)) {k : κ} {a : Option Addr} {c : Nat} (hh : hd k = some ⟨a, (f k).length, c⟩ ∨ (hd k = .none ∧ a = .none ∧ c = 0))
    {a' : Option Addr} {c' : Nat} {l : List α} {n : Nat} (hn : l.length = n) (ho : Own B φ w' E a' c' l) (hg : w.grownBy w' (a.map (·.block))) (hf : ∀ x, a' = some x → a.map (·.block) = some x.block ∨ w.heap.size ≤ x.block) (hrv : ∀ b, Rv b → b < w.heap.size) :
    ∃ o, (∀ W, W.heap[r]? = w.heap[r]? → (Instr.mapUpdate T (.map (some r)) (KeyV.v k) (.slice a' n c')).run P W = .ok () (setMap W r o)) ∧ GrpW E B φ (setMap w' r o) r Rv (updK hd k (some ⟨a', n, c'⟩)) (updK f k l) := by
  subst hn
  obtain ⟨o, M, h1, h2, h3⟩ := h.map
  have hlt := h.lt
  have hlt' : r < w'.heap.size := Nat.lt_of_lt_of_le hlt hg.size
  have hrow : ∀ x, a = some x → x.block < w.heap.size ∧ x.block ≠ r ∧ ¬ Rv x.block ∧ ∀ k' h' y, k' ≠ k → hd k' = some h' → h'.a = some y → y.block ≠ x.block := by
    intro x hx
    rcases hh with hh | ⟨_, e, _⟩
    · exact ⟨((h.row k _ hh).1.lt x hx).2, (h.nm k _ x hh hx).1, (h.nm k _ x hh hx).2, fun k' h' y hne hk' hy => h.nr k' k h' _ y x hne hk' hh hy hx⟩
    · rw [e] at hx; cases hx
  have hgr : some r ≠ a.map (·.block) := by
    cases a with
    | none => simp
    | some x => simpa using (hrow x rfl).2.1.symm
  have key := fun (W : World) (hW : W.heap[r]? = w.heap[r]?) => run_mapUpdate (P := P) (w := W) ht hk (hW.trans h1) h2 k (x := (⟨a', l.length, c'⟩ : Hdr)) (v := .slice a' l.length c') rfl
  have hnew : ∀ x, a' = some x → x.block ≠ r ∧ ¬ Rv x.block ∧ ∀ k' h' y, k' ≠ k → hd k' = some h' → h'.a = some y → y.block ≠ x.block := by
    intro x hx
    rcases hf x hx with q | q
    · cases a with
      | none => cases q
      | some z =>
        have e : z.block = x.block := by simpa using q
        have := hrow z rfl
        rw [e] at this
        exact ⟨this.2.1, this.2.2.1, this.2.2.2⟩
    · exact ⟨by omega, fun e => by have := hrv _ e; omega, fun k' h' y hne hk' hy => by have := ((h.row k' h' hk').1.lt y hy).2; omega⟩
  have hset := setMap_grown w' r (putObj (Key.d κ) o (KeyV.v k) (.slice a' l.length c'))
  refine ⟨_, fun W hW => (key W hW).1, ⟨⟨_, _, setMap_same _ hlt', (key w rfl).2, fun k' => ?_⟩, fun k' hk' => ?_, fun k' h' hk' => ?_, fun k' h' x hk' hx => ?_, fun k1 k2 g1 g2 x y hne e1 e2 e3 e4 => ?_, h.lo, h.fr⟩⟩
  · rw [mget_mput]; unfold updK; split
    · rfl
    · exact h3 k'
  · unfold updK at hk' ⊢
    split
    · next e => rw [if_pos e] at hk'; cases hk'
    · next e => rw [if_neg e] at hk'; exact h.none k' hk'
  · unfold updK at hk' ⊢
    split
    · next e =>
      rw [if_pos e] at hk'; cases hk'
      exact ⟨ho.other hset (fun x hx e => (hnew x hx).1 (by cases e; rfl)), rfl⟩
    · next e =>
      rw [if_neg e] at hk'
      obtain ⟨g1, g2⟩ := h.row k' h' hk'
      refine ⟨(g1.other hg (fun x hx e2 => ?_)).other hset (fun x hx e2 => (h.nm k' h' x hk' hx).1 (by cases e2; rfl)), g2⟩
      cases a with
      | none => cases e2
      | some z => exact (hrow z rfl).2.2.2 k' h' x e hk' hx (by simpa using e2)
  · unfold updK at hk'
    split at hk'
    · cases hk'; exact ⟨(hnew x hx).1, (hnew x hx).2.1⟩
    · exact h.nm k' h' x hk' hx
  · unfold updK at e1 e2
    split at e1
    · next q1 =>
      split at e2
      · next q2 => exact absurd (q1.trans q2.symm) hne
      · next q2 => cases e1; exact fun e => (hnew x e3).2.2 k2 g2 y q2 e2 e4 e.symm
    · next q1 =>
      split at e2
      · next q2 => cases e2; exact (hnew y e4).2.2 k1 g1 x q1 e1 e3
      · exact h.nr k1 k2 g1 g2 x y hne e1 e2 e3 e4
end
end
end Go.Proofs.YtnlhalnjbkpdnaaDoor
