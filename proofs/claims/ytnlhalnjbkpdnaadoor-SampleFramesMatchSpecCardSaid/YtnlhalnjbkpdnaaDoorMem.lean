/- Memory words of my own for walks: a frozen part of the heap (Phi), what reads as a value there (Rep), slices that read as lists (SlV), slices that the call owns (Own), and one invariant for a call's worlds (Inv). Conditions: none; plain Lean over the guide's library. -/
import Derived.WalkKit
import Derived.Lib.Hide
import Derived.Laws.AppendOwnNone
import Derived.Deep.QuietTactic
import Derived.BigQuiet
namespace Go.Proofs.YtnlhalnjbkpdnaaDoor
set_option linter.unusedVariables false
set_option linter.unusedSimpArgs false
open Go.RowKit

theorem bdrewN {B : Nat} {a w : World} (h : Below B a w) (n : Nat) : Below B a (w.drewN n) := ⟨h.os, h.tape, h.output, h.size, h.block⟩
theorem ret_int {k : IntKind} {a b : Int} (h : a = b) : Ending.returned (.int k a) = .returned (.int k b) := by rw [h]
theorem ret_bool {a b : Bool} (h : a = b) : Ending.returned (.bool a) = .returned (.bool b) := by rw [h]

abbrev Phi := Nat → Option Obj
def Phi.cell? (φ : Phi) (a : Addr) : Option Value :=
  match φ a.block with
  | some (.cells c _ _) => if a.spot.isSome then none else c[a.off]?
  | _ => none
def Phi.le (φ φ' : Phi) : Prop := ∀ b o, φ b = some o → φ' b = some o
theorem Phi.le_refl (φ : Phi) : φ.le φ := fun _ _ h => h
theorem Phi.le.trans {a b c : Phi} (h : a.le b) (k : b.le c) : a.le c := fun x o hx => k x o (h x o hx)
theorem Phi.le.cell {φ φ' : Phi} (h : φ.le φ') {a : Addr} {v : Value} (hc : φ.cell? a = some v) : φ'.cell? a = some v := by
  unfold Phi.cell? at hc ⊢
  cases hb : φ a.block with
  | none => simp [hb] at hc
  | some o => rw [h _ _ hb]; rw [hb] at hc; exact hc
def Fz (φ : Phi) (w : World) : Prop := ∀ b o, φ b = some o → w.heap[b]? = some o
theorem Fz.cell {φ : Phi} {w : World} (h : Fz φ w) {a : Addr} {v : Value} (hc : φ.cell? a = some v) : w.cell? a = some v := by
  unfold Phi.cell? at hc
  cases hb : φ a.block with
  | none => simp [hb] at hc
  | some o => unfold World.cell?; rw [h _ _ hb]; rw [hb] at hc; cases o <;> simp_all
theorem Fz.lt {φ : Phi} {w : World} (h : Fz φ w) {a : Addr} {v : Value} (hc : φ.cell? a = some v) : a.block < w.heap.size :=
  World.block_lt_of_cell? w a (h.cell hc)
theorem Fz.mlt {φ : Phi} {w : World} (h : Fz φ w) {b : Nat} {o : Obj} (hc : φ b = some o) : b < w.heap.size :=
  (Array.getElem?_eq_some_iff.1 (h _ _ hc)).1
theorem Fz.below {φ : Phi} {w w' : World} (h : Fz φ w) (hb : Below w.heap.size w w') : Fz φ w' :=
  fun b o hc => (hb.block b (h.mlt hc)).trans (h b o hc)
theorem Fz.sub {φ φ' : Phi} {w : World} (h : Fz φ' w) (hl : φ.le φ') : Fz φ w := fun b o hb => h b o (hl b o hb)
def Phi.upd (φ : Phi) (g : Nat) (o : Obj) : Phi := fun b => if b = g then some o else φ b
theorem Phi.le_upd (φ : Phi) (g : Nat) (o : Obj) (h : φ g = none) : φ.le (φ.upd g o) := by
  intro b o' hb
  unfold Phi.upd
  split
  · next e => subst e; rw [h] at hb; cases hb
  · exact hb
theorem Fz.upd {φ : Phi} {w : World} (h : Fz φ w) {g : Nat} {o : Obj} (hg : w.heap[g]? = some o) : Fz (φ.upd g o) w := by
  intro b o' hb
  unfold Phi.upd at hb
  split at hb
  · next e => subst e; cases hb; exact hg
  · exact h _ _ hb

/-- What a type of Lean's reads as, in cells. -/
class Rep (α : Type) where
  size : Nat
  rep : Phi → α → List Value → Prop
  len : ∀ {φ x cs}, rep φ x cs → cs.length = size
  mono : ∀ {φ φ' x cs}, φ.le φ' → rep φ x cs → rep φ' x cs
  one : ∀ {φ x cs}, rep φ x cs → ∀ u ∈ cs, u.oneCell' = true

instance : Rep Int where
  size := 1
  rep := fun _ x cs => cs = [.int .i64 x]
  len := by intro _ _ _ h; subst h; rfl
  mono := fun _ h => h
  one := by intro _ _ _ h u hu; subst h; simp at hu; subst hu; rfl
instance : Rep Bool where
  size := 1
  rep := fun _ x cs => cs = [.bool x]
  len := by intro _ _ _ h; subst h; rfl
  mono := fun _ h => h
  one := by intro _ _ _ h u hu; subst h; simp at hu; subst hu; rfl
instance : Rep ByteArray where
  size := 1
  rep := fun _ x cs => cs = [.string x]
  len := by intro _ _ _ h; subst h; rfl
  mono := fun _ h => h
  one := by intro _ _ _ h u hu; subst h; simp at hu; subst hu; rfl

section
variable {α : Type} [Rep α]

structure SlV (φ : Phi) (a : Option Addr) (cap : Nat) (xs : List α) : Prop where
  capn : xs.length ≤ cap
  capm : cap ≤ maxLen
  nil : a = none → cap = 0
  at_ : xs ≠ [] → ∃ b off, a = some ⟨b, off, none⟩ ∧ ∀ k (h : k < xs.length), ∃ cs, Rep.rep φ xs[k] cs ∧ ∀ j (hj : j < cs.length), φ.cell? ⟨b, off + k * Rep.size α + j, none⟩ = some cs[j]

theorem SlV.mono {φ φ' : Phi} {a : Option Addr} {cap : Nat} {xs : List α} (h : SlV φ a cap xs) (hl : φ.le φ') : SlV φ' a cap xs :=
  ⟨h.capn, h.capm, h.nil, fun hx => by
    obtain ⟨b, off, ha, hc⟩ := h.at_ hx
    exact ⟨b, off, ha, fun k hk => by
      obtain ⟨cs, hr, hj⟩ := hc k hk
      exact ⟨cs, Rep.mono hl hr, fun j hjj => hl.cell (hj j hjj)⟩⟩⟩
theorem SlV.empty (φ : Phi) : SlV φ none 0 ([] : List α) := ⟨by simp, by simp [maxLen], fun _ => rfl, fun h => absurd rfl h⟩
/-- At an element: the address, the element's cells (of the frozen heap). -/
theorem SlV.elem {φ : Phi} {a : Option Addr} {cap : Nat} {xs : List α} (h : SlV φ a cap xs) {k : Nat} (hk : k < xs.length) :
    ∃ b off, a = some ⟨b, off, none⟩ ∧ ∀ k (h : k < xs.length), ∃ cs, Rep.rep φ xs[k] cs ∧ ∀ j (hj : j < cs.length), φ.cell? ⟨b, off + k * Rep.size α + j, none⟩ = some cs[j] :=
  h.at_ (by intro e; subst e; simp at hk)

instance : Rep (List α) where
  size := 1
  rep := fun φ xs cs => ∃ a cap, cs = [.slice a xs.length cap] ∧ SlV φ a cap xs
  len := by rintro _ _ _ ⟨a, c, rfl, _⟩; rfl
  mono := by rintro _ _ _ _ hl ⟨a, c, rfl, h⟩; exact ⟨a, c, rfl, h.mono hl⟩
  one := by rintro _ _ _ ⟨a, c, rfl, _⟩ u hu; simp at hu; subst hu; rfl

instance {β γ : Type} [Rep β] [Rep γ] : Rep (β × γ) where
  size := Rep.size β + Rep.size γ
  rep := fun φ x cs => ∃ c d, cs = c ++ d ∧ Rep.rep φ x.1 c ∧ Rep.rep φ x.2 d
  len := by rintro _ _ _ ⟨c, d, rfl, h1, h2⟩; simp [Rep.len h1, Rep.len h2]
  mono := by rintro _ _ _ _ hl ⟨c, d, rfl, h1, h2⟩; exact ⟨c, d, rfl, Rep.mono hl h1, Rep.mono hl h2⟩
  one := by
    rintro _ _ _ ⟨c, d, rfl, h1, h2⟩ u hu
    rcases List.mem_append.1 hu with h | h
    · exact Rep.one h1 u h
    · exact Rep.one h2 u h
theorem rep_pair {β γ : Type} [Rep β] [Rep γ] {φ : Phi} {x : β} {y : γ} {cs : List Value} (s : Nat) (h1 : Rep.rep φ x (cs.take s)) (h2 : Rep.rep φ y (cs.drop s)) : Rep.rep φ (x, y) cs :=
  ⟨_, _, (List.take_append_drop s cs).symm, h1, h2⟩

def RepL (φ : Phi) : List α → List Value → Prop
  | [], cells => cells = []
  | x :: xs, cells => ∃ cs rest, cells = cs ++ rest ∧ Rep.rep φ x cs ∧ RepL φ xs rest
theorem RepL.len {φ : Phi} : ∀ {xs : List α} {cells : List Value}, RepL φ xs cells → cells.length = xs.length * Rep.size α
  | [], _, h => by cases h; simp
  | x :: xs, _, h => by
    obtain ⟨cs, rest, rfl, h1, h2⟩ := h
    simp [RepL.len h2, Rep.len h1, Nat.add_mul, Nat.add_comm]
theorem RepL.append {φ : Phi} {ys : List α} {d : List Value} (k : RepL φ ys d) : ∀ {xs : List α} {c : List Value}, RepL φ xs c → RepL φ (xs ++ ys) (c ++ d)
  | [], _, h => by cases h; simpa using k
  | x :: xs, _, h => by
    obtain ⟨cs, rest, rfl, h1, h2⟩ := h
    exact ⟨cs, rest ++ d, by simp, h1, RepL.append k h2⟩
theorem RepL.mono {φ φ' : Phi} (hl : φ.le φ') : ∀ {xs : List α} {c : List Value}, RepL φ xs c → RepL φ' xs c
  | [], _, h => h
  | x :: xs, _, h => by
    obtain ⟨cs, rest, rfl, h1, h2⟩ := h
    exact ⟨cs, rest, rfl, Rep.mono hl h1, h2.mono hl⟩
theorem RepL.one {φ : Phi} : ∀ {xs : List α} {c : List Value}, RepL φ xs c → ∀ u ∈ c, u.oneCell' = true
  | [], _, h => by cases h; simp
  | x :: xs, _, h => by
    obtain ⟨cs, rest, rfl, h1, h2⟩ := h
    intro u hu
    rcases List.mem_append.1 hu with hu | hu
    · exact Rep.one h1 u hu
    · exact h2.one u hu
theorem RepL.get {φ : Phi} : ∀ {xs : List α} {c : List Value}, RepL φ xs c → ∀ k (hk : k < xs.length), ∃ cs, Rep.rep φ xs[k] cs ∧ ∀ j (hj : j < cs.length), c[k * Rep.size α + j]? = some cs[j]
  | [], _, _, k, hk => by simp at hk
  | x :: xs, _, h, 0, _ => by
    obtain ⟨cs, rest, rfl, h1, _⟩ := h
    exact ⟨cs, h1, fun j hj => by simp [List.getElem?_append_left hj, hj]⟩
  | x :: xs, _, h, k + 1, hk => by
    obtain ⟨cs, rest, rfl, h1, h2⟩ := h
    obtain ⟨cs', r, hj⟩ := h2.get k (by simpa using hk)
    refine ⟨cs', r, fun j hjj => ?_⟩
    rw [List.getElem?_append_right (by rw [Rep.len h1, Nat.succ_mul]; omega)]
    rw [← hj j hjj, Rep.len h1]
    congr 1
    rw [Nat.succ_mul]; omega
theorem RepL.single {φ : Phi} {x : α} {cs : List Value} (h : Rep.rep φ x cs) : RepL φ [x] cs := ⟨cs, [], by simp, h, rfl⟩
theorem RepL.set {φ : Phi} : ∀ {xs : List α} {c : List Value}, RepL φ xs c → ∀ k (_ : k < xs.length) {y : α} {ds : List Value}, Rep.rep φ y ds → RepL φ (xs.set k y) (c.take (k * Rep.size α) ++ ds ++ c.drop (k * Rep.size α + Rep.size α))
  | [], _, _, k, hk, _, _, _ => by simp at hk
  | x :: xs, _, h, 0, _, y, ds, hy => by
    obtain ⟨cs, rest, rfl, h1, h2⟩ := h
    refine ⟨ds, rest, ?_, hy, h2⟩
    simp [← Rep.len h1]
  | x :: xs, _, h, k + 1, hk, y, ds, hy => by
    obtain ⟨cs, rest, rfl, h1, h2⟩ := h
    refine ⟨cs, _, ?_, h1, h2.set k (by simpa using hk) hy⟩
    have e := Rep.len h1
    simp only [Nat.succ_mul, List.take_append, List.drop_append, e, List.append_assoc]
    rw [List.take_of_length_le (by rw [e]; omega), List.drop_eq_nil_of_le (by rw [e]; omega)]
    simp only [List.nil_append]
    congr 4 <;> omega

/-- The one invariant of a call's worlds: nothing older than the call has turned, the frozen part is as it was but for new blocks. -/
structure Inv (B : Nat) (w0 : World) (φ0 φ : Phi) (w : World) : Prop where
  bel : Below B w0 w
  base : B = w0.heap.size
  fz : Fz φ w
  le : φ0.le φ
  new : ∀ b, b < B → φ b = φ0 b
theorem Inv.start {φ : Phi} {w : World} (h : Fz φ w) : Inv w.heap.size w φ φ w := ⟨Below.refl _ _, rfl, h, φ.le_refl, fun _ _ => rfl⟩
theorem Inv.size {B : Nat} {w0 w : World} {φ0 φ : Phi} (h : Inv B w0 φ0 φ w) : B ≤ w.heap.size := by have := h.bel.size; have := h.base; omega
theorem Fz.alloc {φ : Phi} {w : World} (h : Fz φ w) (o : Obj) : Fz φ (w.alloc o) := h.below ((Below.refl _ _).alloc (Nat.le_refl _) o)
theorem Inv.alloc {B : Nat} {w0 w : World} {φ0 φ : Phi} (h : Inv B w0 φ0 φ w) (o : Obj) : Inv B w0 φ0 φ (w.alloc o) :=
  ⟨h.bel.alloc h.size o, h.base, h.fz.alloc o, h.le, h.new⟩
theorem Inv.drew {B : Nat} {w0 w : World} {φ0 φ : Phi} (h : Inv B w0 φ0 φ w) : Inv B w0 φ0 φ w.drew := ⟨h.bel.drew, h.base, h.fz, h.le, h.new⟩
theorem Inv.drewN {B : Nat} {w0 w : World} {φ0 φ : Phi} (h : Inv B w0 φ0 φ w) (n : Nat) : Inv B w0 φ0 φ (w.drewN n) := ⟨bdrewN h.bel n, h.base, h.fz, h.le, h.new⟩
theorem Inv.call {B : Nat} {w0 w w' : World} {φ0 φ φ' : Phi} (h : Inv B w0 φ0 φ w) (h' : Inv w.heap.size w φ φ' w') : Inv B w0 φ0 φ' w' :=
  ⟨h.bel.trans (h'.bel.mono h.size), h.base, h'.fz, h.le.trans h'.le, fun b hb => (h'.new b (Nat.lt_of_lt_of_le hb h.size)).trans (h.new b hb)⟩
theorem Inv.callB {B : Nat} {w0 w w' : World} {φ0 φ : Phi} (h : Inv B w0 φ0 φ w) (h' : Below w.heap.size w w') : Inv B w0 φ0 φ w' :=
  ⟨h.bel.trans (h'.mono h.size), h.base, h.fz.below h', h.le, h.new⟩
/-- A write into a block of the call's own that is not frozen. -/
theorem Inv.write {B : Nat} {w0 w w' : World} {φ0 φ : Phi} (h : Inv B w0 φ0 φ w) {g : Nat} (hg : B ≤ g) (hφ : φ g = none) (hw : w.grownBy w' (some g)) : Inv B w0 φ0 φ w' := by
  refine ⟨h.bel.grown hw h.size (fun k e => by cases e; exact hg), h.base, fun b o hb => ?_, h.le, h.new⟩
  have hlt := h.fz.mlt hb
  exact (hw.block b hlt (fun e => by cases e; rw [hφ] at hb; cases hb)).trans (h.fz b o hb)
theorem Inv.setCell {B : Nat} {w0 w : World} {φ0 φ : Phi} (h : Inv B w0 φ0 φ w) {g off : Nat} (hg : B ≤ g) (hφ : φ g = none) (u : Value) : Inv B w0 φ0 φ (w.setCell ⟨g, off, none⟩ u) :=
  h.write hg hφ ⟨rfl, rfl, rfl, by simp [World.setCell], fun k _ hk => Below.heap_setCell _ _ _ _ (by intro e; exact hk (by rw [e]))⟩

/-- A slice that the call owns: nil, or a row of its own, not frozen. -/
structure Own (B : Nat) (φ : Phi) (w : World) (E : TypeId) (a : Option Addr) (cap : Nat) (xs : List α) : Prop where
  row : ∃ cells, w.ownsRow B E (Rep.size α) (.slice a xs.length cap) xs.length cells ∧ RepL φ xs cells
  free : ∀ x, a = some x → φ x.block = none
theorem Own.nil (B : Nat) (φ : Phi) (w : World) (E : TypeId) : Own B φ w E none 0 ([] : List α) :=
  ⟨⟨[], World.ownsRow_nil _ _ _ _, rfl⟩, fun _ h => by cases h⟩
theorem Own.lt {B : Nat} {φ : Phi} {w : World} {E : TypeId} {a : Option Addr} {cap : Nat} {xs : List α} (h : Own B φ w E a cap xs) : ∀ x, a = some x → B ≤ x.block ∧ x.block < w.heap.size := by
  rintro x rfl
  obtain ⟨_, hr, _⟩ := h.row
  exact hr.lt _ rfl
theorem Own.base {B B' : Nat} {φ : Phi} {w : World} {E : TypeId} {a : Option Addr} {cap : Nat} {xs : List α} (h : Own B φ w E a cap xs) (hb : B' ≤ B) : Own B' φ w E a cap xs := by
  obtain ⟨cells, ⟨h1, h2⟩, hr⟩ := h.row
  refine ⟨⟨cells, ⟨h1, ?_⟩, hr⟩, h.free⟩
  rcases h2 with h2 | ⟨g, c, cur, hv, hbg, r⟩
  · exact .inl h2
  · exact .inr ⟨g, c, cur, hv, Nat.le_trans hb hbg, r⟩
theorem Own.kept {B : Nat} {φ φ' : Phi} {w w' : World} {E : TypeId} {a : Option Addr} {cap : Nat} {xs : List α} (h : Own B φ w E a cap xs) (hl : φ.le φ') (hn : ∀ b, b < w.heap.size → φ b = none → φ' b = none)
    (hb : ∀ x, a = some x → w'.heap[x.block]? = w.heap[x.block]?) : Own B φ' w' E a cap xs := by
  obtain ⟨cells, ⟨h1, h2⟩, hr⟩ := h.row
  refine ⟨⟨cells, ⟨h1, ?_⟩, hr.mono hl⟩, fun x hx => hn _ (h.lt x hx).2 (h.free x hx)⟩
  rcases h2 with h2 | ⟨g, c, cur, hv, hbg, hg, r⟩
  · exact .inl h2
  · refine .inr ⟨g, c, cur, hv, hbg, ?_, r⟩
    have ha : a = some ⟨g, 0, none⟩ := by injection hv
    rw [hb _ ha]; exact hg
theorem Own.callB {B : Nat} {φ : Phi} {w w' : World} {E : TypeId} {a : Option Addr} {cap : Nat} {xs : List α} (h : Own B φ w E a cap xs) (hb : Below w.heap.size w w') : Own B φ w' E a cap xs :=
  h.kept φ.le_refl (fun _ _ h => h) fun x hx => hb.block _ (h.lt x hx).2
theorem Own.call {B : Nat} {φ φ' : Phi} {w w' : World} {E : TypeId} {a : Option Addr} {cap : Nat} {xs : List α} (h : Own B φ w E a cap xs) (hi : Inv w.heap.size w φ φ' w') : Own B φ' w' E a cap xs :=
  h.kept hi.le (fun b hb hn => (hi.new b hb).trans hn) fun x hx => hi.bel.block _ (h.lt x hx).2
theorem Own.alloc {B : Nat} {φ : Phi} {w : World} {E : TypeId} {a : Option Addr} {cap : Nat} {xs : List α} (h : Own B φ w E a cap xs) (o : Obj) : Own B φ (w.alloc o) E a cap xs :=
  h.callB ((Below.refl _ _).alloc (Nat.le_refl _) o)
theorem Own.drew {B : Nat} {φ : Phi} {w : World} {E : TypeId} {a : Option Addr} {cap : Nat} {xs : List α} (h : Own B φ w E a cap xs) : Own B φ w.drew E a cap xs := ⟨h.row, h.free⟩
theorem Own.drewN {B : Nat} {φ : Phi} {w : World} {E : TypeId} {a : Option Addr} {cap : Nat} {xs : List α} (h : Own B φ w E a cap xs) (n : Nat) : Own B φ (w.drewN n) E a cap xs := ⟨h.row, h.free⟩
/-- Behind a write to another row. -/
theorem Own.other {B : Nat} {φ : Phi} {w w' : World} {E : TypeId} {a : Option Addr} {cap : Nat} {xs : List α} (h : Own B φ w E a cap xs) {row : Option Nat} (hg : w.grownBy w' row) (hne : ∀ x, a = some x → some x.block ≠ row) : Own B φ w' E a cap xs :=
  h.kept φ.le_refl (fun _ _ h => h) fun x hx => hg.block _ (h.lt x hx).2 (hne x hx)
theorem Own.cap_le {B : Nat} {φ : Phi} {w : World} {E : TypeId} {a : Option Addr} {cap : Nat} {xs : List α} (h : Own B φ w E a cap xs) : xs.length ≤ cap ∧ cap ≤ maxLen ∧ (a = none → cap = 0) := by
  obtain ⟨cells, ⟨h1, h2⟩, hr⟩ := h.row
  rcases h2 with ⟨h2, h3⟩ | ⟨g, c, cur, hv, hbg, hg, hnc, hcm, r⟩
  · injection h2 with e1 e2 e3; subst e3; exact ⟨by omega, by simp [maxLen], fun _ => rfl⟩
  · injection hv with e1 e2 e3; subst e3; subst e1; exact ⟨hnc, hcm, fun h => by cases h⟩
/-- The cells of an owned slice, where it holds something. -/
theorem Own.elem {B : Nat} {φ : Phi} {w : World} {E : TypeId} {a : Option Addr} {cap : Nat} {xs : List α} (h : Own B φ w E a cap xs) {k : Nat} (hk : k < xs.length) :
    ∃ g, a = some ⟨g, 0, none⟩ ∧ B ≤ g ∧ g < w.heap.size ∧ φ g = none ∧ (∀ j, w.frozen? ⟨g, j, none⟩ = false) ∧ ∀ k (_ : k < xs.length), ∃ cs, Rep.rep φ xs[k] cs ∧ ∀ j (hj : j < cs.length), w.cell? ⟨g, k * Rep.size α + j, none⟩ = some cs[j] := by
  obtain ⟨cells, hrow, hr⟩ := h.row
  rcases hrow.2 with ⟨h2, h3⟩ | ⟨g, c, cur, hv, hbg, hg, r⟩
  · omega
  · have ha : a = some ⟨g, 0, none⟩ := by injection hv
    subst ha
    refine ⟨g, rfl, hbg, (Array.getElem?_eq_some_iff.1 hg).1, h.free _ rfl, fun j => hrow.frozenAt j, fun k hk => ?_⟩
    obtain ⟨cs, hc, hj⟩ := hr.get k hk
    refine ⟨cs, hc, fun j hjj => ?_⟩
    rw [← hj j hjj]
    refine hrow.cellAt _ ?_
    have := Rep.len hc
    calc k * Rep.size α + j < k * Rep.size α + Rep.size α := by omega
      _ = (k + 1) * Rep.size α := by rw [Nat.succ_mul]
      _ ≤ xs.length * Rep.size α := Nat.mul_le_mul_right _ hk
theorem RepL.setCell {φ : Phi} {xs : List α} {c : List Value} (h : RepL φ xs c) {k : Nat} (hk : k < xs.length) {y : α} {cs : List Value} {j : Nat} {u : Value} (hcs : ∀ i (hi : i < cs.length), c[k * Rep.size α + i]? = some cs[i]) (hl : cs.length = Rep.size α) (hj : j < cs.length) (hy : Rep.rep φ y (cs.set j u)) :
    RepL φ (xs.set k y) (c.set (k * Rep.size α + j) u) := by
  have hs := h.set k hk hy
  have hlen := h.len
  have hle : k * Rep.size α + Rep.size α ≤ c.length := by
    rw [hlen, ← Nat.succ_mul]; exact Nat.mul_le_mul_right _ hk
  refine Eq.mp (congrArg (RepL φ (xs.set k y)) ?_) hs
  apply List.ext_getElem?
  intro i
  by_cases h1 : i < k * Rep.size α
  · rw [List.getElem?_set_ne (by omega), List.append_assoc, List.getElem?_append_left (by simp; omega), List.getElem?_take_of_lt h1]
  · by_cases h2 : i < k * Rep.size α + Rep.size α
    · rw [List.append_assoc, List.getElem?_append_right (by simp; omega), List.getElem?_append_left (by simp; omega)]
      have e : i - (c.take (k * Rep.size α)).length = i - k * Rep.size α := by simp; omega
      rw [e]
      by_cases h3 : i = k * Rep.size α + j
      · subst h3
        rw [List.getElem?_set_self (by omega), Nat.add_sub_cancel_left, List.getElem?_set_self hj]
      · rw [List.getElem?_set_ne (by omega), List.getElem?_set_ne (by omega)]
        have := hcs (i - k * Rep.size α) (by omega)
        rw [show k * Rep.size α + (i - k * Rep.size α) = i by omega] at this
        rw [this, List.getElem?_eq_getElem (by omega)]
    · rw [List.getElem?_set_ne (by omega), List.getElem?_append_right (by simp; omega), List.getElem?_drop]
      congr 1
      simp
      omega
/-- A store into one cell of an element. -/
theorem Own.setCell {B : Nat} {w0 w : World} {φ0 φ : Phi} {E : TypeId} {g : Nat} {cap : Nat} {xs : List α} (h : Own B φ w E (some ⟨g, 0, none⟩) cap xs) (hi : Inv B w0 φ0 φ w) {k : Nat} (hk : k < xs.length) {y : α} {cs : List Value} {j : Nat} {u : Value}
    (hcs : ∀ i (hi : i < cs.length), w.cell? ⟨g, k * Rep.size α + i, none⟩ = some cs[i]) (hl : cs.length = Rep.size α) (hj : j < cs.length) (hy : Rep.rep φ y (cs.set j u)) :
    Own B φ (w.setCell ⟨g, k * Rep.size α + j, none⟩ u) E (some ⟨g, 0, none⟩) cap (xs.set k y) ∧ Inv B w0 φ0 φ (w.setCell ⟨g, k * Rep.size α + j, none⟩ u) := by
  obtain ⟨cells, hrow, hr⟩ := h.row
  have hf := h.free _ rfl
  have hlt := h.lt _ rfl
  have hc : ∀ i (hi : i < cs.length), cells[k * Rep.size α + i]? = some cs[i] := by
    intro i hii
    rw [← hcs i hii]
    refine (hrow.cellAt _ ?_).symm
    calc k * Rep.size α + i < k * Rep.size α + Rep.size α := by omega
      _ = (k + 1) * Rep.size α := by rw [Nat.succ_mul]
      _ ≤ xs.length * Rep.size α := Nat.mul_le_mul_right _ hk
  obtain ⟨s1, s2⟩ := hrow.stored (k * Rep.size α + j) u
  refine ⟨⟨⟨_, by rw [List.length_set]; exact s1, hr.setCell hk hc hl hj hy⟩, h.free⟩, hi.setCell hlt.1 hf u⟩
/-- Frozen: what the call owned reads as a list from now on. -/
theorem Own.release {B : Nat} {w0 w : World} {φ0 φ : Phi} {E : TypeId} {a : Option Addr} {cap : Nat} {xs : List α} (h : Own B φ w E a cap xs) (hi : Inv B w0 φ0 φ w) :
    ∃ φ', φ.le φ' ∧ Inv B w0 φ0 φ' w ∧ SlV φ' a cap xs ∧ (∀ b, some b ≠ a.map (·.block) → φ' b = φ b) := by
  obtain ⟨cells, hrow, hr⟩ := h.row
  obtain ⟨c1, c2, c3⟩ := h.cap_le
  rcases hrow.2 with ⟨h2, h3⟩ | ⟨g, c, cur, hv, hbg, hg, hnc, hcm, hcs, ht⟩
  · have : xs = [] := List.eq_nil_of_length_eq_zero h3
    subst this
    exact ⟨φ, φ.le_refl, hi, ⟨c1, c2, c3, fun e => absurd rfl e⟩, fun _ _ => rfl⟩
  · injection hv with e1 e2 e3
    subst e1
    subst e3
    have hf := h.free _ rfl
    refine ⟨φ.upd g _, φ.le_upd g _ hf, ⟨hi.bel, hi.base, hi.fz.upd hg, hi.le.trans (φ.le_upd g _ hf), fun b hb => ?_⟩, ⟨c1, c2, (fun e => by cases e), (fun hx => ⟨g, 0, rfl, fun k hk => ?_⟩)⟩, fun b hb => ?_⟩
    · unfold Phi.upd; rw [if_neg (by omega)]; exact hi.new b hb
    · obtain ⟨cs, hc, hj⟩ := hr.get k hk
      refine ⟨cs, Rep.mono (φ.le_upd g _ hf) hc, fun j hjj => ?_⟩
      have := hj j hjj
      rw [← ht, List.getElem?_take] at this
      split at this
      · simp only [Phi.cell?, Phi.upd, if_true]
        simpa using this
      · cases this
    · unfold Phi.upd; rw [if_neg (by intro e; exact hb (by simp [e]))]

/-- The table's row of a slice type, as the laws ask it. -/
structure SliceTy (P : Program) (T E : TypeId) (z : Value) (size bytes : Nat) : Prop where
  und : P.underlying T = some (.slice E)
  info : (P.info? E).map (fun i => (i.zero, i.size, i.bytes)) = some (some z, size, bytes)
  zs : z.cells.size = size
  pos : 0 < size
  bpos : 0 < bytes

theorem new_cells (w : World) (arr : Array Value) (E : TypeId) : ∀ j u, arr.toList[j]? = some u → (w.alloc (.cells arr E)).cell? ((⟨w.heap.size, 0, none⟩ : Addr).add j) = some u := by
  intro j u hu
  rw [Addr.add_lit, Nat.zero_add, World.cell?_alloc_at _ _ _ _ rfl]
  simpa using hu

theorem wpList_appF {P : Program} {w : World} {ops : Array Oper} {rest : List Oper} {o : Oper} {act : Act} {Q : Exit → Act → World → Prop} (hgd : o.guard = none) (s x : Operand) (T : TypeId)
    (ho : o.op = .call { callee := .builtin .append, args := #[s, x], argTypes := #[T, T] })
    {E : TypeId} {z : Value} {bytes : Nat} (st : SliceTy P T E z (Rep.size α) bytes) {B : Nat} {w0 : World} {φ0 φ : Phi} (hi : Inv B w0 φ0 φ w)
    (a : Option Addr) (cap : Nat) (xs : List α) (hs : act.eval s = .slice a xs.length cap) (hown : Own B φ w E a cap xs)
    (ad : Addr) (c : Nat) (ys : List α) (news : List Value) (m : Nat) (hx : act.eval x = .slice (some ad) m c) (hm : ys.length = m) (hrep : RepL φ ys news)
    (hnews : ∀ j u, news[j]? = some u → w.cell? (ad.add j) = some u) (hbound : (xs.length + ys.length) * bytes ≤ 140737488355328)
    (h : ∀ a' cap' w', Inv B w0 φ0 φ w' → Own B φ w' E a' cap' (xs ++ ys) → w.grownBy w' (a.map (·.block)) → (∀ x, a' = some x → a.map (·.block) = some x.block ∨ w.heap.size ≤ x.block) → wpList P ops Q rest (act.put o.dst (.slice a' (xs ++ ys).length cap')) w') : wpList P ops Q (o :: rest) act w := by
  obtain ⟨cells, hrow, hr⟩ := hown.row
  obtain ⟨i, i1, i2, i3, i4⟩ := info_parts st.info
  subst hm
  have hb1 : xs.length + ys.length ≤ (xs.length + ys.length) * bytes := Nat.le_mul_of_pos_right _ st.bpos
  obtain ⟨c1, c2, c3⟩ := hown.cap_le
  have hcl := hr.len
  -- a new row
  have new : ∀ v' w', w'.ownsRow w.heap.size E (Rep.size α) v' (xs.length + ys.length) (cells ++ news) → w.grownBy w' none → wpList P ops Q rest (act.put o.dst v') w' := by
    intro v' w' hown' hgrow
    obtain ⟨a', cap', rfl⟩ : ∃ a' cap', v' = .slice a' (xs ++ ys).length cap' := by
      rcases hown'.2 with ⟨e, e2⟩ | ⟨g, c, cur, e, _⟩
      · exact ⟨none, 0, by rw [e, List.length_append, e2]⟩
      · exact ⟨_, c, by rw [e, List.length_append]⟩
    rw [List.length_append] at hown'
    have hg' : w.grownBy w' (a.map (·.block)) := ⟨hgrow.os, hgrow.tape, hgrow.output, hgrow.size, fun k hk _ => hgrow.block k hk (by simp)⟩
    have hfar : ∀ x, a' = some x → a.map (·.block) = some x.block ∨ w.heap.size ≤ x.block := by
      intro x hx; subst hx; exact .inr (hown'.lt x.block rfl).1
    refine h a' cap' w' ⟨hi.bel.grown hgrow hi.size (fun k e => by cases e), hi.base, fun b o hb => (hgrow.block b (hi.fz.mlt hb) (by simp)).trans (hi.fz b o hb), hi.le, hi.new⟩
      ⟨⟨_, ?_, RepL.append hrep hr⟩, fun y hy => ?_⟩ hg' hfar
    · rw [List.length_append]
      obtain ⟨h1, h2⟩ := hown'
      refine ⟨h1, ?_⟩
      rcases h2 with h2 | ⟨g, c, cur, e, hb, r⟩
      · exact .inl h2
      · exact .inr ⟨g, c, cur, e, Nat.le_trans hi.size hb, r⟩
    · subst hy
      cases hφ : φ y.block with
      | none => rfl
      | some ob => have := hown'.lt y.block rfl; have := hi.fz.mlt hφ; omega
  by_cases hroom : xs.length + ys.length ≤ cap
  · cases a with
    | none =>
      have := c3 rfl
      subst this
      have hn : xs.length = 0 := by omega
      have : cells = [] := List.eq_nil_of_length_eq_zero (by rw [hcl, hn]; simp)
      subst this
      rw [hn] at hs
      refine wpList_append_own _ hgd s x T ho w.heap.size E i z (Rep.size α) bytes st.und i1 i2 i3 i4 st.zs st.pos _ 0 [] hs (World.ownsRow_nil _ _ _ _) ad ys.length c news hx hrep.len hnews hrep.one (by unfold maxLen; omega) (by rw [hn] at hbound; exact hbound) (Nat.le_refl _) ?_
      intro v' w' k1 k2 _
      refine new v' w' (by rw [hn]; exact k1) ⟨k2.os, k2.tape, k2.output, k2.size, fun k hk _ => k2.block k hk (by simp [Value.ownBlock])⟩
    | some x0 =>
      obtain ⟨g, rfl⟩ : ∃ g, x0 = ⟨g, 0, none⟩ := by
        rcases hrow.2 with ⟨e, _⟩ | ⟨g, _, _, e, _⟩
        · cases e
        · injection e with e; injection e with e; exact ⟨g, e⟩
      refine wpList_append_fits _ hgd s x T ho B E i (Rep.size α) st.und i1 i3 g xs.length cap cells hs hrow ad ys.length c news hx hrep.len hnews hrep.one hroom ?_
      intro w' k1 k2
      have hlt := hown.lt _ rfl
      have hfr := hown.free _ rfl
      rw [← List.length_append] at k1 ⊢
      exact h _ _ w' (hi.write hlt.1 hfr k2) ⟨⟨_, k1, RepL.append hrep hr⟩, fun y hy => by cases hy; exact hfr⟩ k2 (fun x hx => by cases hx; exact .inl rfl)
  · refine wpList_append_grows _ hgd s x T ho E i z (Rep.size α) bytes st.und i1 i2 i3 i4 st.zs st.pos a xs.length cap cells hs (fun e => by have := c3 e; omega) hcl ?_ ad ys.length c news hx hrep.len hnews hrep.one (by omega) (by unfold maxLen; omega) hbound new
    intro b hb
    subst hb
    obtain ⟨g, rfl⟩ : ∃ g, b = ⟨g, 0, none⟩ := by
      rcases hrow.2 with ⟨e, _⟩ | ⟨g, _, _, e, _⟩
      · cases e
      · injection e with e; injection e with e; exact ⟨g, e⟩
    exact hrow.cells rfl

theorem wpList_app {P : Program} {w : World} {ops : Array Oper} {rest : List Oper} {o : Oper} {act : Act} {Q : Exit → Act → World → Prop} (hgd : o.guard = none) (s x : Operand) (T : TypeId)
    (ho : o.op = .call { callee := .builtin .append, args := #[s, x], argTypes := #[T, T] })
    {E : TypeId} {z : Value} {bytes : Nat} (st : SliceTy P T E z (Rep.size α) bytes) {B : Nat} {w0 : World} {φ0 φ : Phi} (hi : Inv B w0 φ0 φ w)
    (a : Option Addr) (cap : Nat) (xs : List α) (hs : act.eval s = .slice a xs.length cap) (hown : Own B φ w E a cap xs)
    (ad : Addr) (c : Nat) (ys : List α) (news : List Value) (m : Nat) (hx : act.eval x = .slice (some ad) m c) (hm : ys.length = m) (hrep : RepL φ ys news)
    (hnews : ∀ j u, news[j]? = some u → w.cell? (ad.add j) = some u) (hbound : (xs.length + ys.length) * bytes ≤ 140737488355328)
    (h : ∀ a' cap' w', Inv B w0 φ0 φ w' → Own B φ w' E a' cap' (xs ++ ys) → w.grownBy w' (a.map (·.block)) → wpList P ops Q rest (act.put o.dst (.slice a' (xs ++ ys).length cap')) w') : wpList P ops Q (o :: rest) act w :=
  wpList_appF hgd s x T ho st hi a cap xs hs hown ad c ys news m hx hm hrep hnews hbound (fun a' cap' w' h1 h2 h3 _ => h a' cap' w' h1 h2 h3)

/-- The cells of a slice that reads as a list. -/
theorem SlV.news {φ : Phi} {x : Addr} {cap : Nat} : ∀ {xs : List α}, SlV φ (some x) cap xs → ∃ news, RepL φ xs news ∧ ∀ j u, news[j]? = some u → φ.cell? (x.add j) = some u := by
  intro xs h
  by_cases hx : xs = []
  · subst hx; exact ⟨[], rfl, by simp⟩
  · obtain ⟨b, off, ha, hc⟩ := h.at_ hx
    injection ha with ha
    subst ha
    have : ∀ k, k ≤ xs.length → ∃ news, RepL φ (xs.take k) news ∧ ∀ j u, news[j]? = some u → φ.cell? ⟨b, off + j, none⟩ = some u := by
      intro k
      induction k with
      | zero => exact fun _ => ⟨[], rfl, by simp⟩
      | succ k ih =>
        intro hk
        obtain ⟨news, h1, h2⟩ := ih (by omega)
        obtain ⟨cs, hr, hj⟩ := hc k (by omega)
        refine ⟨news ++ cs, ?_, fun j u hu => ?_⟩
        · rw [List.take_add_one, List.getElem?_eq_getElem (by omega)]
          exact RepL.append (RepL.single hr) h1
        · have hl := h1.len
          rw [List.length_take, Nat.min_eq_left (by omega)] at hl
          by_cases hlt : j < news.length
          · rw [List.getElem?_append_left hlt] at hu; exact h2 j u hu
          · rw [List.getElem?_append_right (by omega)] at hu
            obtain ⟨hjl, rfl⟩ := List.getElem?_eq_some_iff.1 hu
            have := hj _ hjl
            rw [show off + k * Rep.size α + (j - news.length) = off + j by omega] at this
            exact this
    obtain ⟨news, h1, h2⟩ := this xs.length (Nat.le_refl _)
    rw [List.take_length] at h1
    exact ⟨news, h1, fun j u hu => by rw [Addr.add_lit]; exact h2 j u hu⟩

/-- Several elements, from a slice that reads as a list: nil, empty or not. -/
theorem wpList_apps {P : Program} {w : World} {ops : Array Oper} {rest : List Oper} {o : Oper} {act : Act} {Q : Exit → Act → World → Prop} (hgd : o.guard = none) (s x : Operand) (T : TypeId)
    (ho : o.op = .call { callee := .builtin .append, args := #[s, x], argTypes := #[T, T] })
    {E : TypeId} {z : Value} {bytes : Nat} (st : SliceTy P T E z (Rep.size α) bytes) {B : Nat} {w0 : World} {φ0 φ : Phi} (hi : Inv B w0 φ0 φ w)
    (a : Option Addr) (cap : Nat) (xs : List α) (hown : Own B φ w E a cap xs) (a2 : Option Addr) (cap2 : Nat) (ys : List α) (hsl : SlV φ a2 cap2 ys)
    (hs : act.eval s = .slice a xs.length cap) (hx : act.eval x = .slice a2 ys.length cap2) (hbound : (xs.length + ys.length) * bytes ≤ 140737488355328)
    (h : ∀ a' cap' w', Inv B w0 φ0 φ w' → Own B φ w' E a' cap' (xs ++ ys) → w.grownBy w' (a.map (·.block)) → wpList P ops Q rest (act.put o.dst (.slice a' (xs ++ ys).length cap')) w') : wpList P ops Q (o :: rest) act w := by
  cases a2 with
  | some ad =>
    obtain ⟨news, h1, h2⟩ := hsl.news
    exact wpList_app hgd s x T ho st hi a cap xs hs hown ad cap2 ys news _ hx rfl h1 (fun j u hu => hi.fz.cell (h2 j u hu)) hbound h
  | none =>
    have hc := hsl.nil rfl
    have hy : ys = [] := List.eq_nil_of_length_eq_zero (by have := hsl.capn; omega)
    subst hy
    subst hc
    obtain ⟨cells, hrow, hr⟩ := hown.row
    obtain ⟨i, i1, i2, i3, i4⟩ := info_parts st.info
    refine wpList_append_own_none hgd s x T ho B E i (Rep.size α) st.und i1 _ _ cells hs hrow hx ?_
    have := h a cap w hi (by rw [List.append_nil]; exact hown) ⟨rfl, rfl, rfl, Nat.le_refl _, fun _ _ _ => rfl⟩
    rwa [List.append_nil] at this
/-- An empty literal, S{}. -/
theorem Own.lit0 {B : Nat} {w0 w : World} {φ0 φ : Phi} (hi : Inv B w0 φ0 φ w) (E : TypeId) : Own B φ (w.alloc (.cells #[] E)) E (some ⟨w.heap.size, 0, none⟩) 0 ([] : List α) :=
  ⟨⟨[], World.ownsRow_made w #[] 0 hi.size (by simp [maxLen]) (by simp), rfl⟩, fun x hx => by
    cases hx
    cases hφ : φ w.heap.size with
    | none => rfl
    | some ob => have := hi.fz.mlt hφ; omega⟩

/-- One element: behind the block that 'append(xs, x)' lays for it. -/
theorem wpList_app1 {P : Program} {w : World} {ops : Array Oper} {rest : List Oper} {o : Oper} {act : Act} {Q : Exit → Act → World → Prop} (hgd : o.guard = none) (s x : Operand) (T : TypeId)
    (ho : o.op = .call { callee := .builtin .append, args := #[s, x], argTypes := #[T, T] })
    {E : TypeId} {z : Value} {bytes : Nat} (st : SliceTy P T E z (Rep.size α) bytes) {B : Nat} {w0 : World} {φ0 φ : Phi} (hi : Inv B w0 φ0 φ w)
    (a : Option Addr) (cap : Nat) (xs : List α) (hown : Own B φ w E a cap xs) (arr : Array Value) (E' : TypeId) (y : α) (hrep : Rep.rep φ y arr.toList)
    (hs : act.eval s = .slice a xs.length cap) (c : Nat) (hx : act.eval x = .slice (some ⟨w.heap.size, 0, none⟩) 1 c) (hbound : (xs.length + 1) * bytes ≤ 140737488355328)
    (h : ∀ a' cap' w', Inv B w0 φ0 φ w' → Own B φ w' E a' cap' (xs ++ [y]) → (w.alloc (.cells arr E')).grownBy w' (a.map (·.block)) → wpList P ops Q rest (act.put o.dst (.slice a' (xs ++ [y]).length cap')) w') :
    wpList P ops Q (o :: rest) act (w.alloc (.cells arr E')) :=
  wpList_app hgd s x T ho st (hi.alloc _) a cap xs hs (hown.alloc _) ⟨w.heap.size, 0, none⟩ c [y] arr.toList 1 hx rfl (RepL.single hrep) (new_cells w arr E') hbound h

/-- The same, and where the new slice lies: behind the block that 'append(xs, x)' lays for it. -/
theorem wpList_app1F {P : Program} {w : World} {ops : Array Oper} {rest : List Oper} {o : Oper} {act : Act} {Q : Exit → Act → World → Prop} (hgd : o.guard = none) (s x : Operand) (T : TypeId)
    (ho : o.op = .call { callee := .builtin .append, args := #[s, x], argTypes := #[T, T] })
    {E : TypeId} {z : Value} {bytes : Nat} (st : SliceTy P T E z (Rep.size α) bytes) {B : Nat} {w0 : World} {φ0 φ : Phi} (hi : Inv B w0 φ0 φ w)
    (a : Option Addr) (cap : Nat) (xs : List α) (hown : Own B φ w E a cap xs) (arr : Array Value) (E' : TypeId) (y : α) (hrep : Rep.rep φ y arr.toList)
    (hs : act.eval s = .slice a xs.length cap) (c : Nat) (hx : act.eval x = .slice (some ⟨w.heap.size, 0, none⟩) 1 c) (hbound : (xs.length + 1) * bytes ≤ 140737488355328)
    (h : ∀ a' cap' w', Inv B w0 φ0 φ w' → Own B φ w' E a' cap' (xs ++ [y]) → (w.alloc (.cells arr E')).grownBy w' (a.map (·.block)) → (∀ x, a' = some x → a.map (·.block) = some x.block ∨ (w.alloc (.cells arr E')).heap.size ≤ x.block) → wpList P ops Q rest (act.put o.dst (.slice a' (xs ++ [y]).length cap')) w') :
    wpList P ops Q (o :: rest) act (w.alloc (.cells arr E')) :=
  wpList_appF hgd s x T ho st (hi.alloc _) a cap xs hs (hown.alloc _) ⟨w.heap.size, 0, none⟩ c [y] arr.toList 1 hx rfl (RepL.single hrep) (new_cells w arr E') hbound h

theorem wpList_mk0 {P : Program} {w : World} {ops : Array Oper} {rest : List Oper} {o : Oper} {act : Act} {Q : Exit → Act → World → Prop} (hgd : o.guard = none) (l c : Operand) (T : TypeId) (hop : o.op = Op.makeSlice T l c)
    {E : TypeId} {z : Value} {bytes : Nat} (st : SliceTy P T E z (Rep.size α) bytes) {B : Nat} {w0 : World} {φ0 φ : Phi} (hi : Inv B w0 φ0 φ w) (kl kc : IntKind) (n : Nat)
    (hl : act.eval l = .int kl 0) (hc : act.eval c = .int kc n) (hbound : bytes * n ≤ 281474976710656)
    (h : ∀ w', Inv B w0 φ0 φ w' → Own B φ w' E (some ⟨w.heap.size, 0, none⟩) n ([] : List α) → w.grownBy w' none → wpList P ops Q rest (act.put o.dst (.slice (some ⟨w.heap.size, 0, none⟩) 0 n)) w') : wpList P ops Q (o :: rest) act w := by
  obtain ⟨i, i1, i2, i3, i4⟩ := info_parts st.info
  have hb1 : n ≤ bytes * n := Nat.le_mul_of_pos_left _ st.bpos
  refine wpList_make_own w hgd l c T hop B E i z (Rep.size α) st.und i1 i2 i3 kl kc n n hl hc rfl (by rw [i4]; exact hbound) (by unfold maxLen; omega) hi.size ?_
  intro w' k1 k2
  have hi' : Inv B w0 φ0 φ w' := ⟨hi.bel.grown k2 hi.size (fun k e => by cases e), hi.base, fun b o hb => (k2.block b (hi.fz.mlt hb) (by simp)).trans (hi.fz b o hb), hi.le, hi.new⟩
  refine h w' hi' ⟨⟨[], k1, rfl⟩, fun y hy => ?_⟩ k2
  cases hy
  cases hφ : φ w.heap.size with
  | none => rfl
  | some ob => have := hi.fz.mlt hφ; omega

theorem RepL.replicate {φ : Phi} {y : α} {cs : List Value} (h : Rep.rep φ y cs) : ∀ n, RepL φ (List.replicate n y) (List.replicate n cs).flatten
  | 0 => rfl
  | n + 1 => ⟨cs, _, by simp [List.replicate_succ], h, RepL.replicate h n⟩

theorem wpList_mkn {P : Program} {w : World} {ops : Array Oper} {rest : List Oper} {o : Oper} {act : Act} {Q : Exit → Act → World → Prop} (hgd : o.guard = none) (l c : Operand) (T : TypeId) (hop : o.op = Op.makeSlice T l c)
    {E : TypeId} {z : Value} {bytes : Nat} (st : SliceTy P T E z (Rep.size α) bytes) {B : Nat} {w0 : World} {φ0 φ : Phi} (hi : Inv B w0 φ0 φ w) (kl kc : IntKind) (n : Nat) (y : α) (hy : ∀ φ, Rep.rep φ y z.cells.toList) (h1 : Rep.size α = 1)
    (hl : act.eval l = .int kl n) (hc : act.eval c = .int kc n) (hbound : bytes * n ≤ 281474976710656)
    (h : ∀ w', Inv B w0 φ0 φ w' → Own B φ w' E (some ⟨w.heap.size, 0, none⟩) n (List.replicate n y) → w.grownBy w' none → wpList P ops Q rest (act.put o.dst (.slice (some ⟨w.heap.size, 0, none⟩) n n)) w') : wpList P ops Q (o :: rest) act w := by
  obtain ⟨i, i1, i2, i3, i4⟩ := info_parts st.info
  have hb1 : n ≤ bytes * n := Nat.le_mul_of_pos_left _ st.bpos
  refine wpList_make_full w hgd l c T hop B E i z (Rep.size α) st.und i1 i2 i3 kl kc n n n hl hc rfl rfl (by rw [i4]; exact hbound) (by unfold maxLen; omega) hi.size ?_
  intro w' k1 k2
  have hi' : Inv B w0 φ0 φ w' := ⟨hi.bel.grown k2 hi.size (fun k e => by cases e), hi.base, fun b o hb => (k2.block b (hi.fz.mlt hb) (by simp)).trans (hi.fz b o hb), hi.le, hi.new⟩
  refine h w' hi' ⟨⟨_, by rw [List.length_replicate]; exact k1, ?_⟩, fun y2 hy => ?_⟩ k2
  · have hz := st.zs
    have hyy := RepL.replicate (hy φ) n
    obtain ⟨u, hu⟩ : ∃ u, z.cells = #[u] := by
      have : z.cells.size = 1 := by rw [hz, h1]
      exact Array.size_eq_one_iff.1 this
    rw [hu] at hyy ⊢
    rw [h1, Nat.mul_one, toList_madeCells_one]
    have e : (List.replicate n ([u] : List Value)).flatten = List.replicate n u := by
      clear hyy hi' k1 k2 h hb1 hbound hc hl
      induction n with
      | zero => rfl
      | succ n ih => simp [List.replicate_succ, ih]
    rw [← e]
    exact hyy
  · injection hy with hy
    subst hy
    cases hφ : φ w.heap.size with
    | none => rfl
    | some ob => have := hi.fz.mlt hφ; omega
end
/-- Two slices of the call's own. -/
structure Ow2 {α β : Type} [Rep α] [Rep β] (w0 : World) (φ : Phi) (E F : TypeId) (a1 : Option Addr) (c1 : Nat) (xs : List α) (a2 : Option Addr) (c2 : Nat) (ys : List β) (wr : World) : Prop where
  inv : Inv w0.heap.size w0 φ φ wr
  o1 : Own w0.heap.size φ wr E a1 c1 xs
  o2 : Own w0.heap.size φ wr F a2 c2 ys
  ne : ∀ x y, a1 = some x → a2 = some y → x.block ≠ y.block
section
variable {α β : Type} [Rep α] [Rep β] {w0 wr w' : World} {φ : Phi} {E F : TypeId} {a1 a1' a2 a2' : Option Addr} {c1 c1' c2 c2' : Nat} {xs xs' : List α} {ys ys' : List β}
theorem Ow2.callB (h : Ow2 w0 φ E F a1 c1 xs a2 c2 ys wr) (hb : Below wr.heap.size wr w') : Ow2 w0 φ E F a1 c1 xs a2 c2 ys w' := ⟨h.inv.callB hb, h.o1.callB hb, h.o2.callB hb, h.ne⟩
theorem Ow2.alloc (h : Ow2 w0 φ E F a1 c1 xs a2 c2 ys wr) (o : Obj) : Ow2 w0 φ E F a1 c1 xs a2 c2 ys (wr.alloc o) := h.callB ((Below.refl _ _).alloc (Nat.le_refl _) o)
theorem Ow2.drewN (h : Ow2 w0 φ E F a1 c1 xs a2 c2 ys wr) (q : Nat) : Ow2 w0 φ E F a1 c1 xs a2 c2 ys (wr.drewN q) := h.callB (bdrewN (Below.refl _ _) q)
theorem Ow2.set (h : Ow2 w0 φ E F a1 c1 xs a2 c2 ys wr) {g off : Nat} (hg : w0.heap.size ≤ g) (hφ : φ g = none) (h1 : ∀ x, a1 = some x → x.block ≠ g) (h2 : ∀ x, a2 = some x → x.block ≠ g) (u : Value) : Ow2 w0 φ E F a1 c1 xs a2 c2 ys (wr.setCell ⟨g, off, none⟩ u) := by
  have hgr : wr.grownBy (wr.setCell ⟨g, off, none⟩ u) (some g) := ⟨rfl, rfl, rfl, by simp [World.setCell], fun k _ hk => Below.heap_setCell _ _ _ _ (by intro e; exact hk (by rw [e]))⟩
  exact ⟨h.inv.setCell hg hφ u, h.o1.other hgr (fun x hx e => h1 x hx (by cases e; rfl)), h.o2.other hgr (fun x hx e => h2 x hx (by cases e; rfl)), h.ne⟩
theorem Ow2.step1 (h : Ow2 w0 φ E F a1 c1 xs a2 c2 ys wr) (hi : Inv w0.heap.size w0 φ φ w') (ho : Own w0.heap.size φ w' E a1' c1' xs') (hg : wr.grownBy w' (a1.map (·.block))) (hf : ∀ x, a1' = some x → a1.map (·.block) = some x.block ∨ wr.heap.size ≤ x.block) : Ow2 w0 φ E F a1' c1' xs' a2 c2 ys w' := by
  refine ⟨hi, ho, h.o2.other hg (fun y hy e => ?_), fun x y hx hy e => ?_⟩
  · cases a1 with
    | none => cases e
    | some z => exact h.ne z y rfl hy (by simpa using e.symm)
  · have hlt := (h.o2.lt y hy).2
    rcases hf x hx with hh | hh
    · cases a1 with
      | none => cases hh
      | some z => exact h.ne z y rfl hy ((by simpa using hh : z.block = x.block).trans e)
    · omega
theorem Ow2.swap (h : Ow2 w0 φ E F a1 c1 xs a2 c2 ys wr) : Ow2 w0 φ F E a2 c2 ys a1 c1 xs wr := ⟨h.inv, h.o2, h.o1, fun x y hx hy e => h.ne y x hy hx e.symm⟩
theorem Ow2.release (h : Ow2 w0 φ E F a1 c1 xs a2 c2 ys wr) : ∃ φ', φ.le φ' ∧ Inv w0.heap.size w0 φ φ' wr ∧ SlV φ' a1 c1 xs ∧ SlV φ' a2 c2 ys := by
  obtain ⟨φ1, l1, i1, s1, f1⟩ := h.o1.release h.inv
  have o2' : Own w0.heap.size φ1 wr F a2 c2 ys := by
    obtain ⟨⟨cells, hr, hl⟩, hfr⟩ := h.o2
    refine ⟨⟨cells, hr, hl.mono l1⟩, fun y hy => ?_⟩
    rw [f1 _ (fun e => ?_)]
    · exact hfr y hy
    · cases a1 with
      | none => cases e
      | some z => exact h.ne z y rfl hy (by simpa using e.symm)
  obtain ⟨φ2, l2, i2, s2, _⟩ := o2'.release i1
  exact ⟨φ2, l1.trans l2, i2, s1.mono l2, s2⟩
end
/-- A whole block of cells, not frozen. -/
def Blk (w : World) (g : Nat) (cs : Array Value) (T : TypeId) : Prop := w.heap[g]? = some (.cells cs T (0, 0))
section
variable {w : World} {g : Nat} {cs : Array Value} {T : TypeId}
theorem Blk.new (w : World) (cs : Array Value) (T : TypeId) : Blk (w.alloc (.cells cs T)) w.heap.size cs T := heap_alloc_new w _
theorem Blk.lt (h : Blk w g cs T) : g < w.heap.size := (Array.getElem?_eq_some_iff.1 h).1
theorem Blk.cell (h : Blk w g cs T) (j : Nat) : w.cell? ⟨g, j, none⟩ = cs[j]? := cell_of_row w g j cs T (0, 0) h
theorem Blk.frz (h : Blk w g cs T) (j : Nat) : w.frozen? ⟨g, j, none⟩ = false := frozen_of_row w g j cs T h
theorem Blk.below {B : Nat} {w' : World} (h : Blk w g cs T) (hb : Below B w w') (hg : g < B) : Blk w' g cs T := (hb.block g hg).trans h
theorem Blk.callB {w' : World} (h : Blk w g cs T) (hb : Below w.heap.size w w') : Blk w' g cs T := h.below hb h.lt
theorem Blk.alloc (h : Blk w g cs T) (o : Obj) : Blk (w.alloc o) g cs T := h.callB ((Below.refl _ _).alloc (Nat.le_refl _) o)
theorem Blk.drewN (h : Blk w g cs T) (n : Nat) : Blk (w.drewN n) g cs T := h
theorem Blk.set (h : Blk w g cs T) (j : Nat) (u : Value) : Blk (w.setCell ⟨g, j, none⟩ u) g (cs.setIfInBounds j u) T := heap_setCell_same w g j cs T u h
theorem Blk.other (h : Blk w g cs T) {a : Addr} (hne : a.block ≠ g) (u : Value) : Blk (w.setCell a u) g cs T := (Below.heap_setCell w a u g (fun e => hne e.symm)).trans h
end
end Go.Proofs.YtnlhalnjbkpdnaaDoor
