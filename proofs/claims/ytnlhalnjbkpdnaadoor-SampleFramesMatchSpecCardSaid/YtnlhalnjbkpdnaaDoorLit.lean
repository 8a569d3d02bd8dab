/- Slices written out, S{x, ..}: the call owns them. Conditions: none. -/
import Derived.Test.YtnlhalnjbkpdnaaDoorBase
namespace Go.Proofs.YtnlhalnjbkpdnaaDoor
open Go.RowKit
set_option linter.unusedVariables false
set_option linter.unusedSimpArgs false
theorem Own.lit {α : Type} [Rep α] {B : Nat} {w0 w : World} {φ0 φ : Phi} (hi : Inv B w0 φ0 φ w) (E : TypeId) {xs : List α} {arr : Array Value} (h : RepL φ xs arr.toList) (hm : xs.length ≤ maxLen) : Own B φ (w.alloc (.cells arr E)) E (some ⟨w.heap.size, 0, none⟩) xs.length xs := by
  have hl := h.len
  have hs : arr.size = xs.length * Rep.size α := by rw [← hl]; simp
  refine ⟨⟨arr.toList, ⟨by rw [hl], .inr ⟨w.heap.size, xs.length, arr, rfl, hi.size, heap_alloc_new w _, Nat.le_refl _, hm, hs, ?_⟩⟩, h⟩, fun x hx => ?_⟩
  · rw [List.take_of_length_le]; rw [hl]; exact Nat.le_refl _
  · cases hx
    cases hφ : φ w.heap.size with
    | none => rfl
    | some ob => have := hi.fz.mlt hφ; omega
/-- A row of its own, frozen at once. -/
theorem SlV.lit {α : Type} [Rep α] {w : World} {φ : Phi} (hφ : Fz φ w) (E : TypeId) {xs : List α} {arr : Array Value} (h : RepL φ xs arr.toList) (hm : xs.length ≤ maxLen) : ∃ φ', φ.le φ' ∧ Inv w.heap.size w φ φ' (w.alloc (.cells arr E)) ∧ SlV φ' (some ⟨w.heap.size, 0, none⟩) xs.length xs := by
  obtain ⟨φ', h1, h2, h3, _⟩ := (Own.lit (Inv.start hφ) E h hm).release ((Inv.start hφ).alloc _)
  exact ⟨φ', h1, h2, h3⟩
def SlPost {α : Type} [Rep α] (r : List α × Int) (φ : Phi) (w : World) (e : Ending) (w' : World) : Prop :=
  ∃ a cap φ', e = .returned (.tuple #[.slice a r.1.length cap, .int .i64 r.2]) ∧ Inv w.heap.size w φ φ' w' ∧ SlV φ' a cap r.1
/-- A call's own slice and worlds. -/
structure OwSt {α : Type} [Rep α] (w0 : World) (φ : Phi) (E : TypeId) (ao : Option Addr) (co : Nat) (out : List α) (wr : World) : Prop where
  inv : Inv w0.heap.size w0 φ φ wr
  own : Own w0.heap.size φ wr E ao co out
theorem OwSt.alloc {α : Type} [Rep α] {w0 wr : World} {φ : Phi} {E : TypeId} {ao : Option Addr} {co : Nat} {out : List α} (h : OwSt w0 φ E ao co out wr) (o : Obj) : OwSt w0 φ E ao co out (wr.alloc o) := ⟨h.inv.alloc o, h.own.alloc o⟩
theorem OwSt.drewN {α : Type} [Rep α] {w0 wr : World} {φ : Phi} {E : TypeId} {ao : Option Addr} {co : Nat} {out : List α} (h : OwSt w0 φ E ao co out wr) (q : Nat) : OwSt w0 φ E ao co out (wr.drewN q) := ⟨h.inv.drewN q, h.own.drewN q⟩
theorem OwSt.callB {α : Type} [Rep α] {w0 wr w' : World} {φ : Phi} {E : TypeId} {ao : Option Addr} {co : Nat} {out : List α} (h : OwSt w0 φ E ao co out wr) (hb : Below wr.heap.size wr w') : OwSt w0 φ E ao co out w' := ⟨h.inv.callB hb, h.own.callB hb⟩
/-- A store into a block of the call's own that is not the slice's. -/
theorem OwSt.set {α : Type} [Rep α] {w0 wr : World} {φ : Phi} {E : TypeId} {ao : Option Addr} {co : Nat} {out : List α} (h : OwSt w0 φ E ao co out wr) {g off : Nat} (hg : w0.heap.size ≤ g) (hφ : φ g = none) (ha : ∀ x, ao = some x → x.block ≠ g) (u : Value) : OwSt w0 φ E ao co out (wr.setCell ⟨g, off, none⟩ u) :=
  ⟨h.inv.setCell hg hφ u, h.own.other (row := some g) ⟨rfl, rfl, rfl, by simp [World.setCell], fun k _ hk => Below.heap_setCell _ _ _ _ (by intro e; exact hk (by rw [e]))⟩ (fun x hx e => ha x hx (by cases e; rfl))⟩
theorem Fz.new_none {φ : Phi} {w : World} (h : Fz φ w) {b : Nat} (hb : w.heap.size ≤ b) : φ b = none := by
  cases hφ : φ b with
  | none => rfl
  | some o => have := h.mlt hφ; omega
theorem Inv.frz {B : Nat} {w0 w : World} {φ0 φ : Phi} (hi : Inv B w0 φ0 φ w) (o : Obj) : ∃ φ', φ.le φ' ∧ Inv B w0 φ0 φ' (w.alloc o) ∧ φ' w.heap.size = some o := by
  have hn : φ w.heap.size = none := by
    cases h : φ w.heap.size with
    | none => rfl
    | some o => have := hi.fz.mlt h; omega
  have h2 := hi.alloc o
  refine ⟨φ.upd w.heap.size o, φ.le_upd _ _ hn, ⟨h2.bel, h2.base, h2.fz.upd (heap_alloc_new w o), hi.le.trans (φ.le_upd _ _ hn), fun b hb => ?_⟩, by unfold Phi.upd; rw [if_pos rfl]⟩
  have := hi.size
  unfold Phi.upd
  rw [if_neg (by omega)]
  exact hi.new b hb
theorem Fz.blk {φ : Phi} {w : World} (h : Fz φ w) {g : Nat} {cs : Array Value} {T : TypeId} (hg : φ g = some (.cells cs T)) : Blk w g cs T := h _ _ hg

theorem Inv.frzAt {B : Nat} {w0 w : World} {φ0 φ : Phi} (hi : Inv B w0 φ0 φ w) {g : Nat} {cs : Array Value} {T : TypeId} (hk : Blk w g cs T) (hg : B ≤ g) : ∃ φ', φ.le φ' ∧ Inv B w0 φ0 φ' w ∧ φ' g = some (.cells cs T) ∧ (∀ b, b ≠ g → φ' b = φ b) := by
  have hle : φ.le (φ.upd g (.cells cs T)) := by
    intro b o hb
    unfold Phi.upd
    split
    · next e => subst e; have h1 := hi.fz _ _ hb; unfold Blk at hk; rw [hk] at h1; exact h1
    · exact hb
  refine ⟨φ.upd g (.cells cs T), hle, ⟨hi.bel, hi.base, hi.fz.upd hk, hi.le.trans hle, fun b hb => ?_⟩, by unfold Phi.upd; rw [if_pos rfl], fun b hb => by unfold Phi.upd; rw [if_neg hb]⟩
  unfold Phi.upd
  rw [if_neg (by omega)]
  exact hi.new b hb
def SlPost1 {α : Type} [Rep α] (xs : List α) (φ : Phi) (w : World) (e : Ending) (w' : World) : Prop :=
  ∃ a cap φ', e = .returned (.slice a xs.length cap) ∧ Inv w.heap.size w φ φ' w' ∧ SlV φ' a cap xs
theorem SlV.take {α : Type} [Rep α] {φ : Phi} {a : Option Addr} {cap : Nat} {xs : List α} (h : SlV φ a cap xs) (k : Nat) : SlV φ a cap (xs.take k) :=
  ⟨by have := h.capn; rw [List.length_take]; omega, h.capm, h.nil, fun hne => by
    obtain ⟨b, off, ha, hc⟩ := h.at_ (by intro e; subst e; simp at hne)
    refine ⟨b, off, ha, fun j hj => ?_⟩
    rw [List.length_take] at hj
    obtain ⟨cs, h1, h2⟩ := hc j (by omega)
    exact ⟨cs, by rw [List.getElem_take]; exact h1, h2⟩⟩
end Go.Proofs.YtnlhalnjbkpdnaaDoor
