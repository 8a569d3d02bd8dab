/- A machine in the making: its block, its texts and its map of examples, all the call's own. Conditions: none; plain Lean over the guide's library. -/
import Derived.Test.YtapkkplndhbapaaW7
import Derived.Test.YtapkkplndhbapaaGrp
import Derived.Test.YtapkkplndhbapaaStep
import Derived.Deep.RegionLaw
namespace Go.Proofs.Ytapkkplndhbapaa
open Go.RowKit
set_option linter.unusedVariables false
abbrev WHd := ByteArray → Option Hdr
abbrev WF := ByteArray → List Int
/-- A machine (block bm) with k texts. -/
structure MchSt (w0 : World) (φ0 φ : Phi) (bm : Nat) (v0 v1 v2 v3 v4 v5 : Value) (ta : Option Addr) (tc : Nat) (hs : List Hdr) (gs : List (List ByteArray)) (r : Nat) (hd : WHd) (f : WF) (w : World) : Prop where
  inv : Inv w0.heap.size w0 φ0 φ w
  blk : Blk w bm #[v0, v1, v2, v3, v4, v5, .slice ta hs.length tc, .map (some r)] 59
  tx : Own w0.heap.size φ w 23 ta tc hs
  hdr : HdrL φ hs gs
  grp : GrpW 3 w0.heap.size φ w r (fun b => b = bm ∨ some b = ta.map (·.block)) hd f
  lo : w0.heap.size ≤ bm
  fr : φ bm = none
  nb : ∀ x, ta = some x → x.block ≠ bm ∧ x.block ≠ r
  nr : bm ≠ r
section
variable {w0 w w' wA w5 : World} {φ0 φ φ' : Phi} {bm : Nat} {v0 v1 v2 v3 v4 v5 : Value} {ta ta' : Option Addr} {tc tc' : Nat} {hs : List Hdr} {gs : List (List ByteArray)} {r : Nat} {hd : WHd} {f : WF}
theorem MchSt.start (hi : Inv w0.heap.size w0 φ0 φ w) : MchSt w0 φ0 φ (w.heap.size + 1) v0 v1 v2 v3 v4 v5 none 0 [] [] w.heap.size (fun _ => none) (fun _ => []) ((w.alloc (.map #[] 0)).alloc (.cells #[v0, v1, v2, v3, v4, v5, .slice none 0 0, .map (some w.heap.size)] 59)) := by
  have hsz : (w.alloc (.map #[] 0)).heap.size = w.heap.size + 1 := by simp
  have hb := Blk.new (w.alloc (.map #[] 0)) #[v0, v1, v2, v3, v4, v5, .slice none 0 0, .map (some w.heap.size)] 59
  rw [hsz] at hb
  have h1 := hi.size
  exact ⟨(hi.alloc _).alloc _, hb, Own.nil _ _ _ _, trivial, (GrpW.new hi).callB ((Below.refl _ _).alloc (Nat.le_refl _) _), by omega, hi.fz.new_none (by omega), fun _ h => (by cases h), by omega⟩
theorem MchSt.callB (h : MchSt w0 φ0 φ bm v0 v1 v2 v3 v4 v5 ta tc hs gs r hd f w) (hb : Below w.heap.size w w') : MchSt w0 φ0 φ bm v0 v1 v2 v3 v4 v5 ta tc hs gs r hd f w' :=
  ⟨h.inv.callB hb, h.blk.callB hb, h.tx.callB hb, h.hdr, h.grp.callB hb, h.lo, h.fr, h.nb, h.nr⟩
theorem MchSt.call (h : MchSt w0 φ0 φ bm v0 v1 v2 v3 v4 v5 ta tc hs gs r hd f w) (hi : Inv w.heap.size w φ φ' w') : MchSt w0 φ0 φ' bm v0 v1 v2 v3 v4 v5 ta tc hs gs r hd f w' :=
  ⟨h.inv.call hi, h.blk.callB hi.bel, h.tx.call hi, h.hdr.mono hi.le, h.grp.call hi, h.lo, (hi.new bm h.blk.lt).trans h.fr, h.nb, h.nr⟩
/-- A text more. -/
theorem MchSt.text (h : MchSt w0 φ0 φ bm v0 v1 v2 v3 v4 v5 ta tc hs gs r hd f w) {o : Obj} (hA : wA = w.alloc o) (hi : Inv w0.heap.size w0 φ0 φ w5) {y : Hdr} {g : List ByteArray} (ho : Own w0.heap.size φ w5 23 ta' tc' (hs ++ [y])) (hg : wA.grownBy w5 (ta.map (·.block))) (hf : ∀ x, ta' = some x → ta.map (·.block) = some x.block ∨ wA.heap.size ≤ x.block)
    (hy : SlV φ y.a y.c g ∧ y.n = g.length) {n : Nat} (hn : hs.length + 1 = n) : MchSt w0 φ0 φ bm v0 v1 v2 v3 v4 v5 ta' tc' (hs ++ [y]) (gs ++ [g]) r hd f (w5.setCell ⟨bm, 6, none⟩ (.slice ta' n tc')) := by
  subst hn
  have hbA : Below w.heap.size w wA := by rw [hA]; exact (Below.refl _ _).alloc (Nat.le_refl _) o
  have hltb := h.blk.lt
  have hltA := hbA.size
  have hrow : ∀ b, ta.map (·.block) = some b → b ≠ bm ∧ b ≠ r ∧ b < w.heap.size := by
    intro b hb
    cases ta with
    | none => cases hb
    | some x =>
      have e : x.block = b := by simpa using hb
      have h1 := h.nb x rfl
      have h2 := (h.tx.lt x rfl).2
      rw [e] at h1 h2
      exact ⟨h1.1, h1.2, h2⟩
  have hgA := h.grp.callB hbA
  have hblA := h.blk.callB hbA
  have hlr := h.grp.lt
  have hbl5 : Blk w5 bm #[v0, v1, v2, v3, v4, v5, .slice ta hs.length tc, .map (some r)] 59 := (hg.block bm hblA.lt (fun e => (hrow bm e.symm).1 rfl)).trans hblA
  have hset : w5.grownBy (w5.setCell ⟨bm, 6, none⟩ (.slice ta' (hs.length + 1) tc')) (some bm) := ⟨rfl, rfl, rfl, by simp [World.setCell], fun k _ hk => Below.heap_setCell _ _ _ _ (by intro e; exact hk (by rw [e]))⟩
  have hnew : ∀ x, ta' = some x → x.block ≠ bm ∧ x.block ≠ r := by
    intro x hx
    rcases hf x hx with q | q
    · exact ⟨(hrow _ q).1, (hrow _ q).2.1⟩
    · exact ⟨by omega, by omega⟩
  have hg1 : GrpW 3 w0.heap.size φ wA r (fun b => (b = bm ∨ some b = ta.map (·.block)) ∨ some b = ta'.map (·.block)) hd f := hgA.rv (fun b hb hv => by
    rcases hv with hv | hv
    · exact hv
    · cases ta' with
      | none => cases hv
      | some x =>
        have e : b = x.block := by simpa using hv
        rcases hf x rfl with q | q
        · exact .inr (by rw [e]; exact q.symm)
        · omega)
  have hg2 := (hg1.other hg (fun e => (hrow r e).2.1 rfl) (fun b hb => .inl (.inr hb.symm))).other hset (fun e => h.nr (Option.some.inj e)) (fun b hb => .inl (.inl (Option.some.inj hb).symm))
  refine ⟨hi.setCell h.lo h.fr _, ?_, ho.other hset (fun x hx e => (hnew x hx).1 (Option.some.inj e)), h.hdr.snoc hy, hg2.rv (fun b _ hv => ?_), h.lo, h.fr, hnew, h.nr⟩
  · have := hbl5.set 6 (.slice ta' (hs.length + 1) tc')
    rw [List.length_append]
    exact this
  · rcases hv with hv | hv
    · exact .inl (.inl hv)
    · exact .inr hv
theorem zeroSl (w : World) : (zeroValue 66).run Try.prog w = .ok (.slice none 0 0) w := by kernel_rfl
theorem MchSt.look (h : MchSt w0 φ0 φ bm v0 v1 v2 v3 v4 v5 ta tc hs gs r hd f w) (k : ByteArray) :
    ∃ a c, (∀ W, W.heap[r]? = w.heap[r]? → (Instr.lookup 57 (.map (some r)) (.string k) false).run Try.prog W = .ok (.slice a (f k).length c) W) ∧ Own w0.heap.size φ w 3 a c (f k) ∧ (hd k = some ⟨a, (f k).length, c⟩ ∨ (hd k = none ∧ a = none ∧ c = 0)) :=
  h.grp.look Try.underlying57 Try.underlying9 zeroSl k
/-- A key's list has grown. -/
theorem MchSt.put (h : MchSt w0 φ0 φ bm v0 v1 v2 v3 v4 v5 ta tc hs gs r hd f w) {k : ByteArray} {a : Option Addr} {c : Nat} (hh : hd k = some ⟨a, (f k).length, c⟩ ∨ (hd k = none ∧ a = none ∧ c = 0)) {a' : Option Addr} {c' : Nat} {l : List Int} {n : Nat} (hn : l.length = n) (hi : Inv w0.heap.size w0 φ0 φ w5) (ho : Own w0.heap.size φ w5 3 a' c' l) (hg : w.grownBy w5 (a.map (·.block))) (hf : ∀ x, a' = some x → a.map (·.block) = some x.block ∨ w.heap.size ≤ x.block) :
    ∃ o, (∀ W, W.heap[r]? = w.heap[r]? → (Instr.mapUpdate 57 (.map (some r)) (.string k) (.slice a' n c')).run Try.prog W = .ok () (setMap W r o)) ∧ MchSt w0 φ0 φ bm v0 v1 v2 v3 v4 v5 ta tc hs gs r (updK hd k (some ⟨a', n, c'⟩)) (updK f k l) (setMap w5 r o) := by
  have hlr := h.grp.lt
  have hltb := h.blk.lt
  have hrv : ∀ b, (b = bm ∨ some b = ta.map (·.block)) → b < w.heap.size := by
    intro b hb
    rcases hb with rfl | hb
    · exact hltb
    · cases ta with
      | none => cases hb
      | some x =>
        have e : b = x.block := by simpa using hb
        rw [e]; exact (h.tx.lt x rfl).2
  obtain ⟨o, h1, h2⟩ := h.grp.put Try.underlying57 Try.underlying9 hh hn ho hg hf hrv
  have hrow : ∀ b, a.map (·.block) = some b → b ≠ r ∧ ¬ (b = bm ∨ some b = ta.map (·.block)) := by
    intro b hb
    rcases hh with hh | ⟨_, e, _⟩
    · cases a with
      | none => cases hb
      | some x =>
        have e : x.block = b := by simpa using hb
        rw [← e]; exact h.grp.nm k _ x hh rfl
    · rw [e] at hb; cases hb
  have hset := setMap_grown w5 r o
  refine ⟨o, h1, hi.write h.grp.lo h.grp.fr hset, (hset.block bm (Nat.lt_of_lt_of_le hltb hg.size) (fun e => h.nr (Option.some.inj e))).trans ((hg.block bm hltb (fun e => (hrow bm e.symm).2 (.inl rfl))).trans h.blk), (h.tx.other hg (fun x hx e => (hrow x.block e.symm).2 (.inr (by rw [hx]; rfl)))).other hset (fun x hx e => (h.nb x hx).2 (Option.some.inj e)), h.hdr, h2, h.lo, h.fr, h.nb, h.nr⟩
end
end Go.Proofs.Ytapkkplndhbapaa
