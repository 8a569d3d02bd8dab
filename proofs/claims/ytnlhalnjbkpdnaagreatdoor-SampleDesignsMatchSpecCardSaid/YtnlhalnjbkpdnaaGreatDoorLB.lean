/- Memory words of my own for walks: a frozen part of the heap (Phi), what reads as a value there (Rep), slices that read as lists (SlV), slices that the call owns (Own), and one invariant for a call's worlds (Inv). From what the claim form says of an argument (it can be read as data) to the words of XMem: 'Reads': whatever is read at a type is some value of a Lean type, with its bounds. Words used by all walks of a seat: readings of slices of integers by an index, scans for the first fault, small lemmas. Maps as lists of pairs: what a map's block reads as, and what looking up, storing, making and counting do. Slices written out, S{x, ..}: the call owns them. Slices of slices in the making: a row of headers, each complete slice frozen, the last one the call's own. append at a step of a region that draws its order, in the words of Mem. Ranging over maps as lists of pairs. Maps of slices that a call makes (group by a key): each slice is the call's own. map[string]bool that a call makes as a set of strings. slices.Index and slices.Contains at []string. The walks of IsName and its helpers, on the program's side. Conditions: none beyond what the claim form gives. -/
import Derived.WalkKit
import Derived.Lib.Hide
import Derived.Laws.AppendOwnNone
import Derived.Deep.QuietTactic
import Derived.BigQuiet
import Derived.ProofKit
import Derived.OpenShut
import Derived.ShutString
import Derived.ChangeOld
import Derived.Below
import Derived.SizedLaws
import Derived.Test.YtnlhalnjbkpdnaaGreatDoorRows
import Derived.WalkSpells
import Derived.WalkLawsBesides
import Derived.MapKept
import Derived.Carry
import Derived.Deep.RegionHeld3
import Derived.Deep.DrawnRows
import Derived.Maps.RangeWalk
namespace Go.Proofs.YtnlhalnjbkpdnaaGreatDoor
set_option linter.unusedVariables false
set_option linter.unusedSimpArgs false
open Go.RowKit

theorem bdrewN {B : Nat} {a w : World} (h : Below B a w) (n : Nat) : Below B a (w.drewN n) := ⟨h.os, h.tape, h.output, h.size, h.block⟩
theorem ret_int {k : IntKind} {a b : Int} (h : a = b) : Ending.returned (.int k a) = .returned (.int k b) := by rw [h]
theorem ret_bool {a b : Bool} (h : a = b) : Ending.returned (.bool a) = .returned (.bool b) := by rw [h]

abbrev Phi := Nat → Option Obj
def Phi.cell? (φ : Phi) (a : Addr) : Option Value :=
  match φ a.block with
  | some (.cells c _ _) => if a.spot.isSome then none else c[a.off]?
  | _ => none
def Phi.le (φ φ' : Phi) : Prop := ∀ b o, φ b = some o → φ' b = some o
theorem Phi.le_refl (φ : Phi) : φ.le φ := fun _ _ h => h
theorem Phi.le.trans {a b c : Phi} (h : a.le b) (k : b.le c) : a.le c := fun x o hx => k x o (h x o hx)
theorem Phi.le.cell {φ φ' : Phi} (h : φ.le φ') {a : Addr} {v : Value} (hc : φ.cell? a = some v) : φ'.cell? a = some v := by
  unfold Phi.cell? at hc ⊢
  cases hb : φ a.block with
  | none => simp [hb] at hc
  | some o => rw [h _ _ hb]; rw [hb] at hc; exact hc
def Fz (φ : Phi) (w : World) : Prop := ∀ b o, φ b = some o → w.heap[b]? = some o
theorem Fz.cell {φ : Phi} {w : World} (h : Fz φ w) {a : Addr} {v : Value} (hc : φ.cell? a = some v) : w.cell? a = some v := by
  unfold Phi.cell? at hc
  cases hb : φ a.block with
  | none => simp [hb] at hc
  | some o => unfold World.cell?; rw [h _ _ hb]; rw [hb] at hc; cases o <;> simp_all
theorem Fz.lt {φ : Phi} {w : World} (h : Fz φ w) {a : Addr} {v : Value} (hc : φ.cell? a = some v) : a.block < w.heap.size :=
  World.block_lt_of_cell? w a (h.cell hc)
theorem Fz.mlt {φ : Phi} {w : World} (h : Fz φ w) {b : Nat} {o : Obj} (hc : φ b = some o) : b < w.heap.size :=
  (Array.getElem?_eq_some_iff.1 (h _ _ hc)).1
theorem Fz.below {φ : Phi} {w w' : World} (h : Fz φ w) (hb : Below w.heap.size w w') : Fz φ w' :=
  fun b o hc => (hb.block b (h.mlt hc)).trans (h b o hc)
theorem Fz.sub {φ φ' : Phi} {w : World} (h : Fz φ' w) (hl : φ.le φ') : Fz φ w := fun b o hb => h b o (hl b o hb)
def Phi.upd (φ : Phi) (g : Nat) (o : Obj) : Phi := fun b => if b = g then some o else φ b
theorem Phi.le_upd (φ : Phi) (g : Nat) (o : Obj) (h : φ g = none) : φ.le (φ.upd g o) := by
  intro b o' hb
  unfold Phi.upd
  split
  · next e => subst e; rw [h] at hb; cases hb
  · exact hb
theorem Fz.upd {φ : Phi} {w : World} (h : Fz φ w) {g : Nat} {o : Obj} (hg : w.heap[g]? = some o) : Fz (φ.upd g o) w := by
  intro b o' hb
  unfold Phi.upd at hb
  split at hb
  · next e => subst e; cases hb; exact hg
  · exact h _ _ hb

/-- What a type of Lean's reads as, in cells. -/
class Rep (α : Type) where
  size : Nat
  rep : Phi → α → List Value → Prop
  len : ∀ {φ x cs}, rep φ x cs → cs.length = size
  mono : ∀ {φ φ' x cs}, φ.le φ' → rep φ x cs → rep φ' x cs
  one : ∀ {φ x cs}, rep φ x cs → ∀ u ∈ cs, u.oneCell' = true

instance : Rep Int where
  size := 1
  rep := fun _ x cs => cs = [.int .i64 x]
  len := by intro _ _ _ h; subst h; rfl
  mono := fun _ h => h
  one := by intro _ _ _ h u hu; subst h; simp at hu; subst hu; rfl
instance : Rep Bool where
  size := 1
  rep := fun _ x cs => cs = [.bool x]
  len := by intro _ _ _ h; subst h; rfl
  mono := fun _ h => h
  one := by intro _ _ _ h u hu; subst h; simp at hu; subst hu; rfl
instance : Rep ByteArray where
  size := 1
  rep := fun _ x cs => cs = [.string x]
  len := by intro _ _ _ h; subst h; rfl
  mono := fun _ h => h
  one := by intro _ _ _ h u hu; subst h; simp at hu; subst hu; rfl

section
variable {α : Type} [Rep α]

structure SlV (φ : Phi) (a : Option Addr) (cap : Nat) (xs : List α) : Prop where
  capn : xs.length ≤ cap
  capm : cap ≤ maxLen
  nil : a = none → cap = 0
  at_ : xs ≠ [] → ∃ b off, a = some ⟨b, off, none⟩ ∧ ∀ k (h : k < xs.length), ∃ cs, Rep.rep φ xs[k] cs ∧ ∀ j (hj : j < cs.length), φ.cell? ⟨b, off + k * Rep.size α + j, none⟩ = some cs[j]

theorem SlV.mono {φ φ' : Phi} {a : Option Addr} {cap : Nat} {xs : List α} (h : SlV φ a cap xs) (hl : φ.le φ') : SlV φ' a cap xs :=
  ⟨h.capn, h.capm, h.nil, fun hx => by
    obtain ⟨b, off, ha, hc⟩ := h.at_ hx
    exact ⟨b, off, ha, fun k hk => by
      obtain ⟨cs, hr, hj⟩ := hc k hk
      exact ⟨cs, Rep.mono hl hr, fun j hjj => hl.cell (hj j hjj)⟩⟩⟩
theorem SlV.empty (φ : Phi) : SlV φ none 0 ([] : List α) := ⟨by simp, by simp [maxLen], fun _ => rfl, fun h => absurd rfl h⟩
/-- At an element: the address, the element's cells (of the frozen heap). -/
theorem SlV.elem {φ : Phi} {a : Option Addr} {cap : Nat} {xs : List α} (h : SlV φ a cap xs) {k : Nat} (hk : k < xs.length) :
    ∃ b off, a = some ⟨b, off, none⟩ ∧ ∀ k (h : k < xs.length), ∃ cs, Rep.rep φ xs[k] cs ∧ ∀ j (hj : j < cs.length), φ.cell? ⟨b, off + k * Rep.size α + j, none⟩ = some cs[j] :=
  h.at_ (by intro e; subst e; simp at hk)

instance : Rep (List α) where
  size := 1
  rep := fun φ xs cs => ∃ a cap, cs = [.slice a xs.length cap] ∧ SlV φ a cap xs
  len := by rintro _ _ _ ⟨a, c, rfl, _⟩; rfl
  mono := by rintro _ _ _ _ hl ⟨a, c, rfl, h⟩; exact ⟨a, c, rfl, h.mono hl⟩
  one := by rintro _ _ _ ⟨a, c, rfl, _⟩ u hu; simp at hu; subst hu; rfl

instance {β γ : Type} [Rep β] [Rep γ] : Rep (β × γ) where
  size := Rep.size β + Rep.size γ
  rep := fun φ x cs => ∃ c d, cs = c ++ d ∧ Rep.rep φ x.1 c ∧ Rep.rep φ x.2 d
  len := by rintro _ _ _ ⟨c, d, rfl, h1, h2⟩; simp [Rep.len h1, Rep.len h2]
  mono := by rintro _ _ _ _ hl ⟨c, d, rfl, h1, h2⟩; exact ⟨c, d, rfl, Rep.mono hl h1, Rep.mono hl h2⟩
  one := by
    rintro _ _ _ ⟨c, d, rfl, h1, h2⟩ u hu
    rcases List.mem_append.1 hu with h | h
    · exact Rep.one h1 u h
    · exact Rep.one h2 u h
theorem rep_pair {β γ : Type} [Rep β] [Rep γ] {φ : Phi} {x : β} {y : γ} {cs : List Value} (s : Nat) (h1 : Rep.rep φ x (cs.take s)) (h2 : Rep.rep φ y (cs.drop s)) : Rep.rep φ (x, y) cs :=
  ⟨_, _, (List.take_append_drop s cs).symm, h1, h2⟩

def RepL (φ : Phi) : List α → List Value → Prop
  | [], cells => cells = []
  | x :: xs, cells => ∃ cs rest, cells = cs ++ rest ∧ Rep.rep φ x cs ∧ RepL φ xs rest
theorem RepL.len {φ : Phi} : ∀ {xs : List α} {cells : List Value}, RepL φ xs cells → cells.length = xs.length * Rep.size α
  | [], _, h => by cases h; simp
  | x :: xs, _, h => by
    obtain ⟨cs, rest, rfl, h1, h2⟩ := h
    simp [RepL.len h2, Rep.len h1, Nat.add_mul, Nat.add_comm]
theorem RepL.append {φ : Phi} {ys : List α} {d : List Value} (k : RepL φ ys d) : ∀ {xs : List α} {c : List Value}, RepL φ xs c → RepL φ (xs ++ ys) (c ++ d)
  | [], _, h => by cases h; simpa using k
  | x :: xs, _, h => by
    obtain ⟨cs, rest, rfl, h1, h2⟩ := h
    exact ⟨cs, rest ++ d, by simp, h1, RepL.append k h2⟩
theorem RepL.mono {φ φ' : Phi} (hl : φ.le φ') : ∀ {xs : List α} {c : List Value}, RepL φ xs c → RepL φ' xs c
  | [], _, h => h
  | x :: xs, _, h => by
    obtain ⟨cs, rest, rfl, h1, h2⟩ := h
    exact ⟨cs, rest, rfl, Rep.mono hl h1, h2.mono hl⟩
theorem RepL.one {φ : Phi} : ∀ {xs : List α} {c : List Value}, RepL φ xs c → ∀ u ∈ c, u.oneCell' = true
  | [], _, h => by cases h; simp
  | x :: xs, _, h => by
    obtain ⟨cs, rest, rfl, h1, h2⟩ := h
    intro u hu
    rcases List.mem_append.1 hu with hu | hu
    · exact Rep.one h1 u hu
    · exact h2.one u hu
theorem RepL.get {φ : Phi} : ∀ {xs : List α} {c : List Value}, RepL φ xs c → ∀ k (hk : k < xs.length), ∃ cs, Rep.rep φ xs[k] cs ∧ ∀ j (hj : j < cs.length), c[k * Rep.size α + j]? = some cs[j]
  | [], _, _, k, hk => by simp at hk
  | x :: xs, _, h, 0, _ => by
    obtain ⟨cs, rest, rfl, h1, _⟩ := h
    exact ⟨cs, h1, fun j hj => by simp [List.getElem?_append_left hj, hj]⟩
  | x :: xs, _, h, k + 1, hk => by
    obtain ⟨cs, rest, rfl, h1, h2⟩ := h
    obtain ⟨cs', r, hj⟩ := h2.get k (by simpa using hk)
    refine ⟨cs', r, fun j hjj => ?_⟩
    rw [List.getElem?_append_right (by rw [Rep.len h1, Nat.succ_mul]; omega)]
    rw [← hj j hjj, Rep.len h1]
    congr 1
    rw [Nat.succ_mul]; omega
theorem RepL.single {φ : Phi} {x : α} {cs : List Value} (h : Rep.rep φ x cs) : RepL φ [x] cs := ⟨cs, [], by simp, h, rfl⟩
theorem RepL.set {φ : Phi} : ∀ {xs : List α} {c : List Value}, RepL φ xs c → ∀ k (_ : k < xs.length) {y : α} {ds : List Value}, Rep.rep φ y ds → RepL φ (xs.set k y) (c.take (k * Rep.size α) ++ ds ++ c.drop (k * Rep.size α + Rep.size α))
  | [], _, _, k, hk, _, _, _ => by simp at hk
  | x :: xs, _, h, 0, _, y, ds, hy => by
    obtain ⟨cs, rest, rfl, h1, h2⟩ := h
    refine ⟨ds, rest, ?_, hy, h2⟩
    simp [← Rep.len h1]
  | x :: xs, _, h, k + 1, hk, y, ds, hy => by
    obtain ⟨cs, rest, rfl, h1, h2⟩ := h
    refine ⟨cs, _, ?_, h1, h2.set k (by simpa using hk) hy⟩
    have e := Rep.len h1
    simp only [Nat.succ_mul, List.take_append, List.drop_append, e, List.append_assoc]
    rw [List.take_of_length_le (by rw [e]; omega), List.drop_eq_nil_of_le (by rw [e]; omega)]
    simp only [List.nil_append]
    congr 4 <;> omega

/-- The one invariant of a call's worlds: nothing older than the call has turned, the frozen part is as it was but for new blocks. -/
structure Inv (B : Nat) (w0 : World) (φ0 φ : Phi) (w : World) : Prop where
  bel : Below B w0 w
  base : B = w0.heap.size
  fz : Fz φ w
  le : φ0.le φ
  new : ∀ b, b < B → φ b = φ0 b
theorem Inv.start {φ : Phi} {w : World} (h : Fz φ w) : Inv w.heap.size w φ φ w := ⟨Below.refl _ _, rfl, h, φ.le_refl, fun _ _ => rfl⟩
theorem Inv.size {B : Nat} {w0 w : World} {φ0 φ : Phi} (h : Inv B w0 φ0 φ w) : B ≤ w.heap.size := by have := h.bel.size; have := h.base; omega
theorem Fz.alloc {φ : Phi} {w : World} (h : Fz φ w) (o : Obj) : Fz φ (w.alloc o) := h.below ((Below.refl _ _).alloc (Nat.le_refl _) o)
theorem Inv.alloc {B : Nat} {w0 w : World} {φ0 φ : Phi} (h : Inv B w0 φ0 φ w) (o : Obj) : Inv B w0 φ0 φ (w.alloc o) :=
  ⟨h.bel.alloc h.size o, h.base, h.fz.alloc o, h.le, h.new⟩
theorem Inv.drew {B : Nat} {w0 w : World} {φ0 φ : Phi} (h : Inv B w0 φ0 φ w) : Inv B w0 φ0 φ w.drew := ⟨h.bel.drew, h.base, h.fz, h.le, h.new⟩
theorem Inv.drewN {B : Nat} {w0 w : World} {φ0 φ : Phi} (h : Inv B w0 φ0 φ w) (n : Nat) : Inv B w0 φ0 φ (w.drewN n) := ⟨bdrewN h.bel n, h.base, h.fz, h.le, h.new⟩
theorem Inv.call {B : Nat} {w0 w w' : World} {φ0 φ φ' : Phi} (h : Inv B w0 φ0 φ w) (h' : Inv w.heap.size w φ φ' w') : Inv B w0 φ0 φ' w' :=
  ⟨h.bel.trans (h'.bel.mono h.size), h.base, h'.fz, h.le.trans h'.le, fun b hb => (h'.new b (Nat.lt_of_lt_of_le hb h.size)).trans (h.new b hb)⟩
theorem Inv.callB {B : Nat} {w0 w w' : World} {φ0 φ : Phi} (h : Inv B w0 φ0 φ w) (h' : Below w.heap.size w w') : Inv B w0 φ0 φ w' :=
  ⟨h.bel.trans (h'.mono h.size), h.base, h.fz.below h', h.le, h.new⟩
/-- A write into a block of the call's own that is not frozen. -/
theorem Inv.write {B : Nat} {w0 w w' : World} {φ0 φ : Phi} (h : Inv B w0 φ0 φ w) {g : Nat} (hg : B ≤ g) (hφ : φ g = none) (hw : w.grownBy w' (some g)) : Inv B w0 φ0 φ w' := by
  refine ⟨h.bel.grown hw h.size (fun k e => by cases e; exact hg), h.base, fun b o hb => ?_, h.le, h.new⟩
  have hlt := h.fz.mlt hb
  exact (hw.block b hlt (fun e => by cases e; rw [hφ] at hb; cases hb)).trans (h.fz b o hb)
theorem Inv.setCell {B : Nat} {w0 w : World} {φ0 φ : Phi} (h : Inv B w0 φ0 φ w) {g off : Nat} (hg : B ≤ g) (hφ : φ g = none) (u : Value) : Inv B w0 φ0 φ (w.setCell ⟨g, off, none⟩ u) :=
  h.write hg hφ ⟨rfl, rfl, rfl, by simp [World.setCell], fun k _ hk => Below.heap_setCell _ _ _ _ (by intro e; exact hk (by rw [e]))⟩

/-- A slice that the call owns: nil, or a row of its own, not frozen. -/
structure Own (B : Nat) (φ : Phi) (w : World) (E : TypeId) (a : Option Addr) (cap : Nat) (xs : List α) : Prop where
  row : ∃ cells, w.ownsRow B E (Rep.size α) (.slice a xs.length cap) xs.length cells ∧ RepL φ xs cells
  free : ∀ x, a = some x → φ x.block = none
theorem Own.nil (B : Nat) (φ : Phi) (w : World) (E : TypeId) : Own B φ w E none 0 ([] : List α) :=
  ⟨⟨[], World.ownsRow_nil _ _ _ _, rfl⟩, fun _ h => by cases h⟩
theorem Own.lt {B : Nat} {φ : Phi} {w : World} {E : TypeId} {a : Option Addr} {cap : Nat} {xs : List α} (h : Own B φ w E a cap xs) : ∀ x, a = some x → B ≤ x.block ∧ x.block < w.heap.size := by
  rintro x rfl
  obtain ⟨_, hr, _⟩ := h.row
  exact hr.lt _ rfl
theorem Own.base {B B' : Nat} {φ : Phi} {w : World} {E : TypeId} {a : Option Addr} {cap : Nat} {xs : List α} (h : Own B φ w E a cap xs) (hb : B' ≤ B) : Own B' φ w E a cap xs := by
  obtain ⟨cells, ⟨h1, h2⟩, hr⟩ := h.row
  refine ⟨⟨cells, ⟨h1, ?_⟩, hr⟩, h.free⟩
  rcases h2 with h2 | ⟨g, c, cur, hv, hbg, r⟩
  · exact .inl h2
  · exact .inr ⟨g, c, cur, hv, Nat.le_trans hb hbg, r⟩
theorem Own.kept {B : Nat} {φ φ' : Phi} {w w' : World} {E : TypeId} {a : Option Addr} {cap : Nat} {xs : List α} (h : Own B φ w E a cap xs) (hl : φ.le φ') (hn : ∀ b, b < w.heap.size → φ b = none → φ' b = none)
    (hb : ∀ x, a = some x → w'.heap[x.block]? = w.heap[x.block]?) : Own B φ' w' E a cap xs := by
  obtain ⟨cells, ⟨h1, h2⟩, hr⟩ := h.row
  refine ⟨⟨cells, ⟨h1, ?_⟩, hr.mono hl⟩, fun x hx => hn _ (h.lt x hx).2 (h.free x hx)⟩
  rcases h2 with h2 | ⟨g, c, cur, hv, hbg, hg, r⟩
  · exact .inl h2
  · refine .inr ⟨g, c, cur, hv, hbg, ?_, r⟩
    have ha : a = some ⟨g, 0, none⟩ := by injection hv
    rw [hb _ ha]; exact hg
theorem Own.callB {B : Nat} {φ : Phi} {w w' : World} {E : TypeId} {a : Option Addr} {cap : Nat} {xs : List α} (h : Own B φ w E a cap xs) (hb : Below w.heap.size w w') : Own B φ w' E a cap xs :=
  h.kept φ.le_refl (fun _ _ h => h) fun x hx => hb.block _ (h.lt x hx).2
theorem Own.call {B : Nat} {φ φ' : Phi} {w w' : World} {E : TypeId} {a : Option Addr} {cap : Nat} {xs : List α} (h : Own B φ w E a cap xs) (hi : Inv w.heap.size w φ φ' w') : Own B φ' w' E a cap xs :=
  h.kept hi.le (fun b hb hn => (hi.new b hb).trans hn) fun x hx => hi.bel.block _ (h.lt x hx).2
theorem Own.alloc {B : Nat} {φ : Phi} {w : World} {E : TypeId} {a : Option Addr} {cap : Nat} {xs : List α} (h : Own B φ w E a cap xs) (o : Obj) : Own B φ (w.alloc o) E a cap xs :=
  h.callB ((Below.refl _ _).alloc (Nat.le_refl _) o)
theorem Own.drew {B : Nat} {φ : Phi} {w : World} {E : TypeId} {a : Option Addr} {cap : Nat} {xs : List α} (h : Own B φ w E a cap xs) : Own B φ w.drew E a cap xs := ⟨h.row, h.free⟩
theorem Own.drewN {B : Nat} {φ : Phi} {w : World} {E : TypeId} {a : Option Addr} {cap : Nat} {xs : List α} (h : Own B φ w E a cap xs) (n : Nat) : Own B φ (w.drewN n) E a cap xs := ⟨h.row, h.free⟩
/-- Behind a write to another row. -/
theorem Own.other {B : Nat} {φ : Phi} {w w' : World} {E : TypeId} {a : Option Addr} {cap : Nat} {xs : List α} (h : Own B φ w E a cap xs) {row : Option Nat} (hg : w.grownBy w' row) (hne : ∀ x, a = some x → some x.block ≠ row) : Own B φ w' E a cap xs :=
  h.kept φ.le_refl (fun _ _ h => h) fun x hx => hg.block _ (h.lt x hx).2 (hne x hx)
theorem Own.cap_le {B : Nat} {φ : Phi} {w : World} {E : TypeId} {a : Option Addr} {cap : Nat} {xs : List α} (h : Own B φ w E a cap xs) : xs.length ≤ cap ∧ cap ≤ maxLen ∧ (a = none → cap = 0) := by
  obtain ⟨cells, ⟨h1, h2⟩, hr⟩ := h.row
  rcases h2 with ⟨h2, h3⟩ | ⟨g, c, cur, hv, hbg, hg, hnc, hcm, r⟩
  · injection h2 with e1 e2 e3; subst e3; exact ⟨by omega, by simp [maxLen], fun _ => rfl⟩
  · injection hv with e1 e2 e3; subst e3; subst e1; exact ⟨hnc, hcm, fun h => by cases h⟩
/-- The cells of an owned slice, where it holds something. -/
theorem Own.elem {B : Nat} {φ : Phi} {w : World} {E : TypeId} {a : Option Addr} {cap : Nat} {xs : List α} (h : Own B φ w E a cap xs) {k : Nat} (hk : k < xs.length) :
    ∃ g, a = some ⟨g, 0, none⟩ ∧ B ≤ g ∧ g < w.heap.size ∧ φ g = none ∧ (∀ j, w.frozen? ⟨g, j, none⟩ = false) ∧ ∀ k (_ : k < xs.length), ∃ cs, Rep.rep φ xs[k] cs ∧ ∀ j (hj : j < cs.length), w.cell? ⟨g, k * Rep.size α + j, none⟩ = some cs[j] := by
  obtain ⟨cells, hrow, hr⟩ := h.row
  rcases hrow.2 with ⟨h2, h3⟩ | ⟨g, c, cur, hv, hbg, hg, r⟩
  · omega
  · have ha : a = some ⟨g, 0, none⟩ := by injection hv
    subst ha
    refine ⟨g, rfl, hbg, (Array.getElem?_eq_some_iff.1 hg).1, h.free _ rfl, fun j => hrow.frozenAt j, fun k hk => ?_⟩
    obtain ⟨cs, hc, hj⟩ := hr.get k hk
    refine ⟨cs, hc, fun j hjj => ?_⟩
    rw [← hj j hjj]
    refine hrow.cellAt _ ?_
    have := Rep.len hc
    calc k * Rep.size α + j < k * Rep.size α + Rep.size α := by omega
      _ = (k + 1) * Rep.size α := by rw [Nat.succ_mul]
      _ ≤ xs.length * Rep.size α := Nat.mul_le_mul_right _ hk
theorem RepL.setCell {φ : Phi} {xs : List α} {c : List Value} (h : RepL φ xs c) {k : Nat} (hk : k < xs.length) {y : α} {cs : List Value} {j : Nat} {u : Value} (hcs : ∀ i (hi : i < cs.length), c[k * Rep.size α + i]? = some cs[i]) (hl : cs.length = Rep.size α) (hj : j < cs.length) (hy : Rep.rep φ y (cs.set j u)) :
    RepL φ (xs.set k y) (c.set (k * Rep.size α + j) u) := by
  have hs := h.set k hk hy
  have hlen := h.len
  have hle : k * Rep.size α + Rep.size α ≤ c.length := by
    rw [hlen, ← Nat.succ_mul]; exact Nat.mul_le_mul_right _ hk
  refine Eq.mp (congrArg (RepL φ (xs.set k y)) ?_) hs
  apply List.ext_getElem?
  intro i
  by_cases h1 : i < k * Rep.size α
  · rw [List.getElem?_set_ne (by omega), List.append_assoc, List.getElem?_append_left (by simp; omega), List.getElem?_take_of_lt h1]
  · by_cases h2 : i < k * Rep.size α + Rep.size α
    · rw [List.append_assoc, List.getElem?_append_right (by simp; omega), List.getElem?_append_left (by simp; omega)]
      have e : i - (c.take (k * Rep.size α)).length = i - k * Rep.size α := by simp; omega
      rw [e]
      by_cases h3 : i = k * Rep.size α + j
      · subst h3
        rw [List.getElem?_set_self (by omega), Nat.add_sub_cancel_left, List.getElem?_set_self hj]
      · rw [List.getElem?_set_ne (by omega), List.getElem?_set_ne (by omega)]
        have := hcs (i - k * Rep.size α) (by omega)
        rw [show k * Rep.size α + (i - k * Rep.size α) = i by omega] at this
        rw [this, List.getElem?_eq_getElem (by omega)]
    · rw [List.getElem?_set_ne (by omega), List.getElem?_append_right (by simp; omega), List.getElem?_drop]
      congr 1
      simp
      omega
/-- A store into one cell of an element. -/
theorem Own.setCell {B : Nat} {w0 w : World} {φ0 φ : Phi} {E : TypeId} {g : Nat} {cap : Nat} {xs : List α} (h : Own B φ w E (some ⟨g, 0, none⟩) cap xs) (hi : Inv B w0 φ0 φ w) {k : Nat} (hk : k < xs.length) {y : α} {cs : List Value} {j : Nat} {u : Value}
    (hcs : ∀ i (hi : i < cs.length), w.cell? ⟨g, k * Rep.size α + i, none⟩ = some cs[i]) (hl : cs.length = Rep.size α) (hj : j < cs.length) (hy : Rep.rep φ y (cs.set j u)) :
    Own B φ (w.setCell ⟨g, k * Rep.size α + j, none⟩ u) E (some ⟨g, 0, none⟩) cap (xs.set k y) ∧ Inv B w0 φ0 φ (w.setCell ⟨g, k * Rep.size α + j, none⟩ u) := by
  obtain ⟨cells, hrow, hr⟩ := h.row
  have hf := h.free _ rfl
  have hlt := h.lt _ rfl
  have hc : ∀ i (hi : i < cs.length), cells[k * Rep.size α + i]? = some cs[i] := by
    intro i hii
    rw [← hcs i hii]
    refine (hrow.cellAt _ ?_).symm
    calc k * Rep.size α + i < k * Rep.size α + Rep.size α := by omega
      _ = (k + 1) * Rep.size α := by rw [Nat.succ_mul]
      _ ≤ xs.length * Rep.size α := Nat.mul_le_mul_right _ hk
  obtain ⟨s1, s2⟩ := hrow.stored (k * Rep.size α + j) u
  refine ⟨⟨⟨_, by rw [List.length_set]; exact s1, hr.setCell hk hc hl hj hy⟩, h.free⟩, hi.setCell hlt.1 hf u⟩
/-- Frozen: what the call owned reads as a list from now on. -/
theorem Own.release {B : Nat} {w0 w : World} {φ0 φ : Phi} {E : TypeId} {a : Option Addr} {cap : Nat} {xs : List α} (h : Own B φ w E a cap xs) (hi : Inv B w0 φ0 φ w) :
    ∃ φ', φ.le φ' ∧ Inv B w0 φ0 φ' w ∧ SlV φ' a cap xs ∧ (∀ b, some b ≠ a.map (·.block) → φ' b = φ b) := by
  obtain ⟨cells, hrow, hr⟩ := h.row
  obtain ⟨c1, c2, c3⟩ := h.cap_le
  rcases hrow.2 with ⟨h2, h3⟩ | ⟨g, c, cur, hv, hbg, hg, hnc, hcm, hcs, ht⟩
  · have : xs = [] := List.eq_nil_of_length_eq_zero h3
    subst this
    exact ⟨φ, φ.le_refl, hi, ⟨c1, c2, c3, fun e => absurd rfl e⟩, fun _ _ => rfl⟩
  · injection hv with e1 e2 e3
    subst e1
    subst e3
    have hf := h.free _ rfl
    refine ⟨φ.upd g _, φ.le_upd g _ hf, ⟨hi.bel, hi.base, hi.fz.upd hg, hi.le.trans (φ.le_upd g _ hf), fun b hb => ?_⟩, ⟨c1, c2, (fun e => by cases e), (fun hx => ⟨g, 0, rfl, fun k hk => ?_⟩)⟩, fun b hb => ?_⟩
    · unfold Phi.upd; rw [if_neg (by omega)]; exact hi.new b hb
    · obtain ⟨cs, hc, hj⟩ := hr.get k hk
      refine ⟨cs, Rep.mono (φ.le_upd g _ hf) hc, fun j hjj => ?_⟩
      have := hj j hjj
      rw [← ht, List.getElem?_take] at this
      split at this
      · simp only [Phi.cell?, Phi.upd, if_true]
        simpa using this
      · cases this
    · unfold Phi.upd; rw [if_neg (by intro e; exact hb (by simp [e]))]

/-- The table's row of a slice type, as the laws ask it. -/
structure SliceTy (P : Program) (T E : TypeId) (z : Value) (size bytes : Nat) : Prop where
  und : P.underlying T = some (.slice E)
  info : (P.info? E).map (fun i => (i.zero, i.size, i.bytes)) = some (some z, size, bytes)
  zs : z.cells.size = size
  pos : 0 < size
  bpos : 0 < bytes

theorem new_cells (w : World) (arr : Array Value) (E : TypeId) : ∀ j u, arr.toList[j]? = some u → (w.alloc (.cells arr E)).cell? ((⟨w.heap.size, 0, none⟩ : Addr).add j) = some u := by
  intro j u hu
  rw [Addr.add_lit, Nat.zero_add, World.cell?_alloc_at _ _ _ _ rfl]
  simpa using hu

theorem wpList_appF {P : Program} {w : World} {ops : Array Oper} {rest : List Oper} {o : Oper} {act : Act} {Q : Exit → Act → World → Prop} (hgd : o.guard = none) (s x : Operand) (T : TypeId)
    (ho : o.op = .call { callee := .builtin .append, args := #[s, x], argTypes := #[T, T] })
    {E : TypeId} {z : Value} {bytes : Nat} (st : SliceTy P T E z (Rep.size α) bytes) {B : Nat} {w0 : World} {φ0 φ : Phi} (hi : Inv B w0 φ0 φ w)
    (a : Option Addr) (cap : Nat) (xs : List α) (hs : act.eval s = .slice a xs.length cap) (hown : Own B φ w E a cap xs)
    (ad : Addr) (c : Nat) (ys : List α) (news : List Value) (m : Nat) (hx : act.eval x = .slice (some ad) m c) (hm : ys.length = m) (hrep : RepL φ ys news)
    (hnews : ∀ j u, news[j]? = some u → w.cell? (ad.add j) = some u) (hbound : (xs.length + ys.length) * bytes ≤ 140737488355328)
    (h : ∀ a' cap' w', Inv B w0 φ0 φ w' → Own B φ w' E a' cap' (xs ++ ys) → w.grownBy w' (a.map (·.block)) → (∀ x, a' = some x → a.map (·.block) = some x.block ∨ w.heap.size ≤ x.block) → wpList P ops Q rest (act.put o.dst (.slice a' (xs ++ ys).length cap')) w') : wpList P ops Q (o :: rest) act w := by
  obtain ⟨cells, hrow, hr⟩ := hown.row
  obtain ⟨i, i1, i2, i3, i4⟩ := info_parts st.info
  subst hm
  have hb1 : xs.length + ys.length ≤ (xs.length + ys.length) * bytes := Nat.le_mul_of_pos_right _ st.bpos
  obtain ⟨c1, c2, c3⟩ := hown.cap_le
  have hcl := hr.len
  -- a new row
  have new : ∀ v' w', w'.ownsRow w.heap.size E (Rep.size α) v' (xs.length + ys.length) (cells ++ news) → w.grownBy w' none → wpList P ops Q rest (act.put o.dst v') w' := by
    intro v' w' hown' hgrow
    obtain ⟨a', cap', rfl⟩ : ∃ a' cap', v' = .slice a' (xs ++ ys).length cap' := by
      rcases hown'.2 with ⟨e, e2⟩ | ⟨g, c, cur, e, _⟩
      · exact ⟨none, 0, by rw [e, List.length_append, e2]⟩
      · exact ⟨_, c, by rw [e, List.length_append]⟩
    rw [List.length_append] at hown'
    have hg' : w.grownBy w' (a.map (·.block)) := ⟨hgrow.os, hgrow.tape, hgrow.output, hgrow.size, fun k hk _ => hgrow.block k hk (by simp)⟩
    have hfar : ∀ x, a' = some x → a.map (·.block) = some x.block ∨ w.heap.size ≤ x.block := by
      intro x hx; subst hx; exact .inr (hown'.lt x.block rfl).1
    refine h a' cap' w' ⟨hi.bel.grown hgrow hi.size (fun k e => by cases e), hi.base, fun b o hb => (hgrow.block b (hi.fz.mlt hb) (by simp)).trans (hi.fz b o hb), hi.le, hi.new⟩
      ⟨⟨_, ?_, RepL.append hrep hr⟩, fun y hy => ?_⟩ hg' hfar
    · rw [List.length_append]
      obtain ⟨h1, h2⟩ := hown'
      refine ⟨h1, ?_⟩
      rcases h2 with h2 | ⟨g, c, cur, e, hb, r⟩
      · exact .inl h2
      · exact .inr ⟨g, c, cur, e, Nat.le_trans hi.size hb, r⟩
    · subst hy
      cases hφ : φ y.block with
      | none => rfl
      | some ob => have := hown'.lt y.block rfl; have := hi.fz.mlt hφ; omega
  by_cases hroom : xs.length + ys.length ≤ cap
  · cases a with
    | none =>
      have := c3 rfl
      subst this
      have hn : xs.length = 0 := by omega
      have : cells = [] := List.eq_nil_of_length_eq_zero (by rw [hcl, hn]; simp)
      subst this
      rw [hn] at hs
      refine wpList_append_own _ hgd s x T ho w.heap.size E i z (Rep.size α) bytes st.und i1 i2 i3 i4 st.zs st.pos _ 0 [] hs (World.ownsRow_nil _ _ _ _) ad ys.length c news hx hrep.len hnews hrep.one (by unfold maxLen; omega) (by rw [hn] at hbound; exact hbound) (Nat.le_refl _) ?_
      intro v' w' k1 k2 _
      refine new v' w' (by rw [hn]; exact k1) ⟨k2.os, k2.tape, k2.output, k2.size, fun k hk _ => k2.block k hk (by simp [Value.ownBlock])⟩
    | some x0 =>
      obtain ⟨g, rfl⟩ : ∃ g, x0 = ⟨g, 0, none⟩ := by
        rcases hrow.2 with ⟨e, _⟩ | ⟨g, _, _, e, _⟩
        · cases e
        · injection e with e; injection e with e; exact ⟨g, e⟩
      refine wpList_append_fits _ hgd s x T ho B E i (Rep.size α) st.und i1 i3 g xs.length cap cells hs hrow ad ys.length c news hx hrep.len hnews hrep.one hroom ?_
      intro w' k1 k2
      have hlt := hown.lt _ rfl
      have hfr := hown.free _ rfl
      rw [← List.length_append] at k1 ⊢
      exact h _ _ w' (hi.write hlt.1 hfr k2) ⟨⟨_, k1, RepL.append hrep hr⟩, fun y hy => by cases hy; exact hfr⟩ k2 (fun x hx => by cases hx; exact .inl rfl)
  · refine wpList_append_grows _ hgd s x T ho E i z (Rep.size α) bytes st.und i1 i2 i3 i4 st.zs st.pos a xs.length cap cells hs (fun e => by have := c3 e; omega) hcl ?_ ad ys.length c news hx hrep.len hnews hrep.one (by omega) (by unfold maxLen; omega) hbound new
    intro b hb
    subst hb
    obtain ⟨g, rfl⟩ : ∃ g, b = ⟨g, 0, none⟩ := by
      rcases hrow.2 with ⟨e, _⟩ | ⟨g, _, _, e, _⟩
      · cases e
      · injection e with e; injection e with e; exact ⟨g, e⟩
    exact hrow.cells rfl

theorem wpList_app {P : Program} {w : World} {ops : Array Oper} {rest : List Oper} {o : Oper} {act : Act} {Q : Exit → Act → World → Prop} (hgd : o.guard = none) (s x : Operand) (T : TypeId)
    (ho : o.op = .call { callee := .builtin .append, args := #[s, x], argTypes := #[T, T] })
    {E : TypeId} {z : Value} {bytes : Nat} (st : SliceTy P T E z (Rep.size α) bytes) {B : Nat} {w0 : World} {φ0 φ : Phi} (hi : Inv B w0 φ0 φ w)
    (a : Option Addr) (cap : Nat) (xs : List α) (hs : act.eval s = .slice a xs.length cap) (hown : Own B φ w E a cap xs)
    (ad : Addr) (c : Nat) (ys : List α) (news : List Value) (m : Nat) (hx : act.eval x = .slice (some ad) m c) (hm : ys.length = m) (hrep : RepL φ ys news)
    (hnews : ∀ j u, news[j]? = some u → w.cell? (ad.add j) = some u) (hbound : (xs.length + ys.length) * bytes ≤ 140737488355328)
    (h : ∀ a' cap' w', Inv B w0 φ0 φ w' → Own B φ w' E a' cap' (xs ++ ys) → w.grownBy w' (a.map (·.block)) → wpList P ops Q rest (act.put o.dst (.slice a' (xs ++ ys).length cap')) w') : wpList P ops Q (o :: rest) act w :=
  wpList_appF hgd s x T ho st hi a cap xs hs hown ad c ys news m hx hm hrep hnews hbound (fun a' cap' w' h1 h2 h3 _ => h a' cap' w' h1 h2 h3)

/-- The cells of a slice that reads as a list. -/
theorem SlV.news {φ : Phi} {x : Addr} {cap : Nat} : ∀ {xs : List α}, SlV φ (some x) cap xs → ∃ news, RepL φ xs news ∧ ∀ j u, news[j]? = some u → φ.cell? (x.add j) = some u := by
  intro xs h
  by_cases hx : xs = []
  · subst hx; exact ⟨[], rfl, by simp⟩
  · obtain ⟨b, off, ha, hc⟩ := h.at_ hx
    injection ha with ha
    subst ha
    have : ∀ k, k ≤ xs.length → ∃ news, RepL φ (xs.take k) news ∧ ∀ j u, news[j]? = some u → φ.cell? ⟨b, off + j, none⟩ = some u := by
      intro k
      induction k with
      | zero => exact fun _ => ⟨[], rfl, by simp⟩
      | succ k ih =>
        intro hk
        obtain ⟨news, h1, h2⟩ := ih (by omega)
        obtain ⟨cs, hr, hj⟩ := hc k (by omega)
        refine ⟨news ++ cs, ?_, fun j u hu => ?_⟩
        · rw [List.take_add_one, List.getElem?_eq_getElem (by omega)]
          exact RepL.append (RepL.single hr) h1
        · have hl := h1.len
          rw [List.length_take, Nat.min_eq_left (by omega)] at hl
          by_cases hlt : j < news.length
          · rw [List.getElem?_append_left hlt] at hu; exact h2 j u hu
          · rw [List.getElem?_append_right (by omega)] at hu
            obtain ⟨hjl, rfl⟩ := List.getElem?_eq_some_iff.1 hu
            have := hj _ hjl
            rw [show off + k * Rep.size α + (j - news.length) = off + j by omega] at this
            exact this
    obtain ⟨news, h1, h2⟩ := this xs.length (Nat.le_refl _)
    rw [List.take_length] at h1
    exact ⟨news, h1, fun j u hu => by rw [Addr.add_lit]; exact h2 j u hu⟩

/-- Several elements, from a slice that reads as a list: nil, empty or not. -/
theorem wpList_apps {P : Program} {w : World} {ops : Array Oper} {rest : List Oper} {o : Oper} {act : Act} {Q : Exit → Act → World → Prop} (hgd : o.guard = none) (s x : Operand) (T : TypeId)
    (ho : o.op = .call { callee := .builtin .append, args := #[s, x], argTypes := #[T, T] })
    {E : TypeId} {z : Value} {bytes : Nat} (st : SliceTy P T E z (Rep.size α) bytes) {B : Nat} {w0 : World} {φ0 φ : Phi} (hi : Inv B w0 φ0 φ w)
    (a : Option Addr) (cap : Nat) (xs : List α) (hown : Own B φ w E a cap xs) (a2 : Option Addr) (cap2 : Nat) (ys : List α) (hsl : SlV φ a2 cap2 ys)
    (hs : act.eval s = .slice a xs.length cap) (hx : act.eval x = .slice a2 ys.length cap2) (hbound : (xs.length + ys.length) * bytes ≤ 140737488355328)
    (h : ∀ a' cap' w', Inv B w0 φ0 φ w' → Own B φ w' E a' cap' (xs ++ ys) → w.grownBy w' (a.map (·.block)) → wpList P ops Q rest (act.put o.dst (.slice a' (xs ++ ys).length cap')) w') : wpList P ops Q (o :: rest) act w := by
  cases a2 with
  | some ad =>
    obtain ⟨news, h1, h2⟩ := hsl.news
    exact wpList_app hgd s x T ho st hi a cap xs hs hown ad cap2 ys news _ hx rfl h1 (fun j u hu => hi.fz.cell (h2 j u hu)) hbound h
  | none =>
    have hc := hsl.nil rfl
    have hy : ys = [] := List.eq_nil_of_length_eq_zero (by have := hsl.capn; omega)
    subst hy
    subst hc
    obtain ⟨cells, hrow, hr⟩ := hown.row
    obtain ⟨i, i1, i2, i3, i4⟩ := info_parts st.info
    refine wpList_append_own_none hgd s x T ho B E i (Rep.size α) st.und i1 _ _ cells hs hrow hx ?_
    have := h a cap w hi (by rw [List.append_nil]; exact hown) ⟨rfl, rfl, rfl, Nat.le_refl _, fun _ _ _ => rfl⟩
    rwa [List.append_nil] at this
/-- An empty literal, S{}. -/
theorem Own.lit0 {B : Nat} {w0 w : World} {φ0 φ : Phi} (hi : Inv B w0 φ0 φ w) (E : TypeId) : Own B φ (w.alloc (.cells #[] E)) E (some ⟨w.heap.size, 0, none⟩) 0 ([] : List α) :=
  ⟨⟨[], World.ownsRow_made w #[] 0 hi.size (by simp [maxLen]) (by simp), rfl⟩, fun x hx => by
    cases hx
    cases hφ : φ w.heap.size with
    | none => rfl
    | some ob => have := hi.fz.mlt hφ; omega⟩

/-- One element: behind the block that 'append(xs, x)' lays for it. -/
theorem wpList_app1 {P : Program} {w : World} {ops : Array Oper} {rest : List Oper} {o : Oper} {act : Act} {Q : Exit → Act → World → Prop} (hgd : o.guard = none) (s x : Operand) (T : TypeId)
    (ho : o.op = .call { callee := .builtin .append, args := #[s, x], argTypes := #[T, T] })
    {E : TypeId} {z : Value} {bytes : Nat} (st : SliceTy P T E z (Rep.size α) bytes) {B : Nat} {w0 : World} {φ0 φ : Phi} (hi : Inv B w0 φ0 φ w)
    (a : Option Addr) (cap : Nat) (xs : List α) (hown : Own B φ w E a cap xs) (arr : Array Value) (E' : TypeId) (y : α) (hrep : Rep.rep φ y arr.toList)
    (hs : act.eval s = .slice a xs.length cap) (c : Nat) (hx : act.eval x = .slice (some ⟨w.heap.size, 0, none⟩) 1 c) (hbound : (xs.length + 1) * bytes ≤ 140737488355328)
    (h : ∀ a' cap' w', Inv B w0 φ0 φ w' → Own B φ w' E a' cap' (xs ++ [y]) → (w.alloc (.cells arr E')).grownBy w' (a.map (·.block)) → wpList P ops Q rest (act.put o.dst (.slice a' (xs ++ [y]).length cap')) w') :
    wpList P ops Q (o :: rest) act (w.alloc (.cells arr E')) :=
  wpList_app hgd s x T ho st (hi.alloc _) a cap xs hs (hown.alloc _) ⟨w.heap.size, 0, none⟩ c [y] arr.toList 1 hx rfl (RepL.single hrep) (new_cells w arr E') hbound h

/-- The same, and where the new slice lies: behind the block that 'append(xs, x)' lays for it. -/
theorem wpList_app1F {P : Program} {w : World} {ops : Array Oper} {rest : List Oper} {o : Oper} {act : Act} {Q : Exit → Act → World → Prop} (hgd : o.guard = none) (s x : Operand) (T : TypeId)
    (ho : o.op = .call { callee := .builtin .append, args := #[s, x], argTypes := #[T, T] })
    {E : TypeId} {z : Value} {bytes : Nat} (st : SliceTy P T E z (Rep.size α) bytes) {B : Nat} {w0 : World} {φ0 φ : Phi} (hi : Inv B w0 φ0 φ w)
    (a : Option Addr) (cap : Nat) (xs : List α) (hown : Own B φ w E a cap xs) (arr : Array Value) (E' : TypeId) (y : α) (hrep : Rep.rep φ y arr.toList)
    (hs : act.eval s = .slice a xs.length cap) (c : Nat) (hx : act.eval x = .slice (some ⟨w.heap.size, 0, none⟩) 1 c) (hbound : (xs.length + 1) * bytes ≤ 140737488355328)
    (h : ∀ a' cap' w', Inv B w0 φ0 φ w' → Own B φ w' E a' cap' (xs ++ [y]) → (w.alloc (.cells arr E')).grownBy w' (a.map (·.block)) → (∀ x, a' = some x → a.map (·.block) = some x.block ∨ (w.alloc (.cells arr E')).heap.size ≤ x.block) → wpList P ops Q rest (act.put o.dst (.slice a' (xs ++ [y]).length cap')) w') :
    wpList P ops Q (o :: rest) act (w.alloc (.cells arr E')) :=
  wpList_appF hgd s x T ho st (hi.alloc _) a cap xs hs (hown.alloc _) ⟨w.heap.size, 0, none⟩ c [y] arr.toList 1 hx rfl (RepL.single hrep) (new_cells w arr E') hbound h

theorem RepL.replicate {φ : Phi} {y : α} {cs : List Value} (h : Rep.rep φ y cs) : ∀ n, RepL φ (List.replicate n y) (List.replicate n cs).flatten
  | 0 => rfl
  | n + 1 => ⟨cs, _, by simp [List.replicate_succ], h, RepL.replicate h n⟩

theorem wpList_mkn {P : Program} {w : World} {ops : Array Oper} {rest : List Oper} {o : Oper} {act : Act} {Q : Exit → Act → World → Prop} (hgd : o.guard = none) (l c : Operand) (T : TypeId) (hop : o.op = Op.makeSlice T l c)
    {E : TypeId} {z : Value} {bytes : Nat} (st : SliceTy P T E z (Rep.size α) bytes) {B : Nat} {w0 : World} {φ0 φ : Phi} (hi : Inv B w0 φ0 φ w) (kl kc : IntKind) (n : Nat) (y : α) (hy : ∀ φ, Rep.rep φ y z.cells.toList) (h1 : Rep.size α = 1)
    (hl : act.eval l = .int kl n) (hc : act.eval c = .int kc n) (hbound : bytes * n ≤ 281474976710656)
    (h : ∀ w', Inv B w0 φ0 φ w' → Own B φ w' E (some ⟨w.heap.size, 0, none⟩) n (List.replicate n y) → w.grownBy w' none → wpList P ops Q rest (act.put o.dst (.slice (some ⟨w.heap.size, 0, none⟩) n n)) w') : wpList P ops Q (o :: rest) act w := by
  obtain ⟨i, i1, i2, i3, i4⟩ := info_parts st.info
  have hb1 : n ≤ bytes * n := Nat.le_mul_of_pos_left _ st.bpos
  refine wpList_make_full w hgd l c T hop B E i z (Rep.size α) st.und i1 i2 i3 kl kc n n n hl hc rfl rfl (by rw [i4]; exact hbound) (by unfold maxLen; omega) hi.size ?_
  intro w' k1 k2
  have hi' : Inv B w0 φ0 φ w' := ⟨hi.bel.grown k2 hi.size (fun k e => by cases e), hi.base, fun b o hb => (k2.block b (hi.fz.mlt hb) (by simp)).trans (hi.fz b o hb), hi.le, hi.new⟩
  refine h w' hi' ⟨⟨_, by rw [List.length_replicate]; exact k1, ?_⟩, fun y2 hy => ?_⟩ k2
  · have hz := st.zs
    have hyy := RepL.replicate (hy φ) n
    obtain ⟨u, hu⟩ : ∃ u, z.cells = #[u] := by
      have : z.cells.size = 1 := by rw [hz, h1]
      exact Array.size_eq_one_iff.1 this
    rw [hu] at hyy ⊢
    rw [h1, Nat.mul_one, toList_madeCells_one]
    have e : (List.replicate n ([u] : List Value)).flatten = List.replicate n u := by
      clear hyy hi' k1 k2 h hb1 hbound hc hl
      induction n with
      | zero => rfl
      | succ n ih => simp [List.replicate_succ, ih]
    rw [← e]
    exact hyy
  · injection hy with hy
    subst hy
    cases hφ : φ w.heap.size with
    | none => rfl
    | some ob => have := hi.fz.mlt hφ; omega
end
/-- Two slices of the call's own. -/
structure Ow2 {α β : Type} [Rep α] [Rep β] (w0 : World) (φ : Phi) (E F : TypeId) (a1 : Option Addr) (c1 : Nat) (xs : List α) (a2 : Option Addr) (c2 : Nat) (ys : List β) (wr : World) : Prop where
  inv : Inv w0.heap.size w0 φ φ wr
  o1 : Own w0.heap.size φ wr E a1 c1 xs
  o2 : Own w0.heap.size φ wr F a2 c2 ys
  ne : ∀ x y, a1 = some x → a2 = some y → x.block ≠ y.block
section
variable {α β : Type} [Rep α] [Rep β] {w0 wr w' : World} {φ : Phi} {E F : TypeId} {a1 a1' a2 a2' : Option Addr} {c1 c1' c2 c2' : Nat} {xs xs' : List α} {ys ys' : List β}
theorem Ow2.callB (h : Ow2 w0 φ E F a1 c1 xs a2 c2 ys wr) (hb : Below wr.heap.size wr w') : Ow2 w0 φ E F a1 c1 xs a2 c2 ys w' := ⟨h.inv.callB hb, h.o1.callB hb, h.o2.callB hb, h.ne⟩
theorem Ow2.alloc (h : Ow2 w0 φ E F a1 c1 xs a2 c2 ys wr) (o : Obj) : Ow2 w0 φ E F a1 c1 xs a2 c2 ys (wr.alloc o) := h.callB ((Below.refl _ _).alloc (Nat.le_refl _) o)
theorem Ow2.drewN (h : Ow2 w0 φ E F a1 c1 xs a2 c2 ys wr) (q : Nat) : Ow2 w0 φ E F a1 c1 xs a2 c2 ys (wr.drewN q) := h.callB (bdrewN (Below.refl _ _) q)
theorem Ow2.set (h : Ow2 w0 φ E F a1 c1 xs a2 c2 ys wr) {g off : Nat} (hg : w0.heap.size ≤ g) (hφ : φ g = none) (h1 : ∀ x, a1 = some x → x.block ≠ g) (h2 : ∀ x, a2 = some x → x.block ≠ g) (u : Value) : Ow2 w0 φ E F a1 c1 xs a2 c2 ys (wr.setCell ⟨g, off, none⟩ u) := by
  have hgr : wr.grownBy (wr.setCell ⟨g, off, none⟩ u) (some g) := ⟨rfl, rfl, rfl, by simp [World.setCell], fun k _ hk => Below.heap_setCell _ _ _ _ (by intro e; exact hk (by rw [e]))⟩
  exact ⟨h.inv.setCell hg hφ u, h.o1.other hgr (fun x hx e => h1 x hx (by cases e; rfl)), h.o2.other hgr (fun x hx e => h2 x hx (by cases e; rfl)), h.ne⟩
theorem Ow2.swap (h : Ow2 w0 φ E F a1 c1 xs a2 c2 ys wr) : Ow2 w0 φ F E a2 c2 ys a1 c1 xs wr := ⟨h.inv, h.o2, h.o1, fun x y hx hy e => h.ne y x hy hx e.symm⟩
theorem Ow2.release (h : Ow2 w0 φ E F a1 c1 xs a2 c2 ys wr) : ∃ φ', φ.le φ' ∧ Inv w0.heap.size w0 φ φ' wr ∧ SlV φ' a1 c1 xs ∧ SlV φ' a2 c2 ys := by
  obtain ⟨φ1, l1, i1, s1, f1⟩ := h.o1.release h.inv
  have o2' : Own w0.heap.size φ1 wr F a2 c2 ys := by
    obtain ⟨⟨cells, hr, hl⟩, hfr⟩ := h.o2
    refine ⟨⟨cells, hr, hl.mono l1⟩, fun y hy => ?_⟩
    rw [f1 _ (fun e => ?_)]
    · exact hfr y hy
    · cases a1 with
      | none => cases e
      | some z => exact h.ne z y rfl hy (by simpa using e.symm)
  obtain ⟨φ2, l2, i2, s2, _⟩ := o2'.release i1
  exact ⟨φ2, l1.trans l2, i2, s1.mono l2, s2⟩
end
/-- A whole block of cells, not frozen. -/
def Blk (w : World) (g : Nat) (cs : Array Value) (T : TypeId) : Prop := w.heap[g]? = some (.cells cs T (0, 0))
section
variable {w : World} {g : Nat} {cs : Array Value} {T : TypeId}
theorem Blk.new (w : World) (cs : Array Value) (T : TypeId) : Blk (w.alloc (.cells cs T)) w.heap.size cs T := heap_alloc_new w _
theorem Blk.lt (h : Blk w g cs T) : g < w.heap.size := (Array.getElem?_eq_some_iff.1 h).1
theorem Blk.cell (h : Blk w g cs T) (j : Nat) : w.cell? ⟨g, j, none⟩ = cs[j]? := cell_of_row w g j cs T (0, 0) h
theorem Blk.frz (h : Blk w g cs T) (j : Nat) : w.frozen? ⟨g, j, none⟩ = false := frozen_of_row w g j cs T h
theorem Blk.below {B : Nat} {w' : World} (h : Blk w g cs T) (hb : Below B w w') (hg : g < B) : Blk w' g cs T := (hb.block g hg).trans h
theorem Blk.callB {w' : World} (h : Blk w g cs T) (hb : Below w.heap.size w w') : Blk w' g cs T := h.below hb h.lt
theorem Blk.alloc (h : Blk w g cs T) (o : Obj) : Blk (w.alloc o) g cs T := h.callB ((Below.refl _ _).alloc (Nat.le_refl _) o)
theorem Blk.drewN (h : Blk w g cs T) (n : Nat) : Blk (w.drewN n) g cs T := h
theorem Blk.set (h : Blk w g cs T) (j : Nat) (u : Value) : Blk (w.setCell ⟨g, j, none⟩ u) g (cs.setIfInBounds j u) T := heap_setCell_same w g j cs T u h
theorem Blk.other (h : Blk w g cs T) {a : Addr} (hne : a.block ≠ g) (u : Value) : Blk (w.setCell a u) g cs T := (Below.heap_setCell w a u g (fun e => hne e.symm)).trans h
end
end Go.Proofs.YtnlhalnjbkpdnaaGreatDoor

namespace Go.Proofs.YtnlhalnjbkpdnaaGreatDoor
open Go.RowKit Go.ChangeShapes Go.WideShapes Go.ChangeAt

def Phi.all (w : World) : Phi := fun b => w.heap[b]?
theorem Fz.all (w : World) : Fz (Phi.all w) w := fun _ _ h => h
theorem Phi.all_cell (w : World) (a : Addr) : (Phi.all w).cell? a = w.cell? a := by
  unfold Phi.cell? Phi.all World.cell?
  cases w.heap[a.block]? with
  | none => rfl
  | some o => cases o <;> rfl

section
variable {H : Type} (enc : TypeId × Value → H) (P : Program) (W : World)
def Reads (T : TypeId) (α : Type) [Rep α] (G : α → Prop) : Prop :=
  ∀ (fuel base : Nat) (spare : Nat → Bool) (held : Bool) (cs : List Value) (d : DataW H) (ps : List MemPlace), DataW.trod enc P W base spare held fuel T cs = some (d, ps) → (∀ n ∈ d.weights P T, n ≤ reachBytes) → ∃ x : α, Rep.rep (Phi.all W) x cs ∧ G x
variable {enc P W}

def IsI64 (n : Int) : Prop := -9223372036854775808 ≤ n ∧ n ≤ 9223372036854775807
theorem Reads.int {T : TypeId} (ht : P.underlying T = some (.int .i64)) : Reads enc P W T Int IsI64 := by
  intro fuel base spare held cs d ps h _
  obtain ⟨n, rfl, _, wf⟩ := DataW.trod_int ht h
  refine ⟨n, rfl, ?_⟩
  simpa [Lit.wf, IntKind.min, IntKind.max, IntKind.signed, IntKind.bits, IsI64] using wf
theorem Reads.bool {T : TypeId} (ht : P.underlying T = some .bool) : Reads enc P W T Bool (fun _ => True) := by
  intro fuel base spare held cs d ps h _
  obtain ⟨n, rfl, _⟩ := DataW.trod_bool ht h
  exact ⟨n, rfl, trivial⟩
def StrG (s : ByteArray) : Prop := s.size ≤ reachBytes
theorem Reads.str {T : TypeId} (ht : P.underlying T = some .string) : Reads enc P W T ByteArray StrG := by
  intro fuel base spare held cs d ps h hw
  obtain ⟨s, rfl, hx, _⟩ := DataW.trod_string ht h
  refine ⟨s, rfl, ?_⟩
  injection hx with h1 _
  subst h1
  have := hw s.data.toList.length (by simp [DataW.weights])
  rw [Array.length_toList] at this
  exact this

theorem mem_weightsAll {e : TypeId} : ∀ {l : List (DataW H)} {d : DataW H}, d ∈ l → ∀ n ∈ d.weights P e, n ∈ DataW.weightsAll P e l
  | x :: l, d, hd, n, hn => by
    simp only [DataW.weightsAll, List.mem_append]
    rcases List.mem_cons.1 hd with rfl | hd
    · exact .inl hn
    · exact .inr (mem_weightsAll hd n hn)
theorem Reads.slice {T E : TypeId} {α : Type} [Rep α] {G : α → Prop} (ht : P.underlying T = some (.slice E)) (hs : P.cellsOf E = Rep.size α) (hsz : 0 < Rep.size α) (he : Reads enc P W E α G) :
    Reads enc P W T (List α) (fun xs => xs.length * P.bytesOf E ≤ reachBytes ∧ ∀ x ∈ xs, G x) := by
  intro fuel base spare held cs d ps h hw
  rcases DataW.trod_slice ht h with ⟨rfl, hx⟩ | ⟨a, len, cap, elems, rest, n, _, rfl, hx, hb, hl, hm, hlen, hel, hsp, hns⟩
  · exact ⟨[], ⟨none, 0, rfl, SlV.empty _⟩, by simp, by simp⟩
  · injection hx with hd _
    subst hd
    have hww : ∀ m ∈ DataW.weights P T (.slice (elems.map (·.1)) (rest.map (·.1))), m ≤ reachBytes := hw
    simp only [DataW.weights, ht] at hww
    have each : ∀ i (hi : i < len), ∃ x : α, G x ∧ ∃ cs, Rep.rep (Phi.all W) x cs ∧ ∀ j (hj : j < cs.length), W.cell? (a.add (i * Rep.size α + j)) = some cs[j] := by
      intro i hi
      have h1 := hel i hi
      rw [List.getElem?_eq_getElem (by omega)] at h1
      obtain ⟨cs, hcs, htr⟩ := Option.bind_eq_some_iff.1 h1
      have hmem : (elems[i]'(by omega)).1 ∈ elems.map (·.1) := List.mem_map.2 ⟨_, List.getElem_mem _, rfl⟩
      obtain ⟨x, hr, hg⟩ := he n base spare held cs _ _ htr (fun m hm => hww m (by
        refine List.mem_cons_of_mem _ (List.mem_append.2 (.inl (mem_weightsAll hmem m hm)))))
      obtain ⟨_, hlen', hcell⟩ := World.cells?_some hcs
      refine ⟨x, hg, cs, hr, fun j hj => ?_⟩
      have := hcell j (by omega)
      rw [hs] at this
      have e : (a.add (i * Rep.size α)).add j = a.add (i * Rep.size α + j) := by
        unfold Addr.add
        by_cases h1 : i * Rep.size α = 0 <;> by_cases h2 : j = 0 <;> simp [h1, h2, Nat.add_assoc]
      rw [e] at this
      rw [this, List.getElem?_eq_getElem hj]
    have hch : ∃ xs : List α, xs.length = len ∧ ∀ i (hi : i < xs.length), G xs[i] ∧ ∃ cs, Rep.rep (Phi.all W) xs[i] cs ∧ ∀ j (hj : j < cs.length), W.cell? (a.add (i * Rep.size α + j)) = some cs[j] := by
      clear hww hel hw h
      have : ∀ m, m ≤ len → ∃ xs : List α, xs.length = m ∧ ∀ i (hi : i < xs.length), G xs[i] ∧ ∃ cs, Rep.rep (Phi.all W) xs[i] cs ∧ ∀ j (hj : j < cs.length), W.cell? (a.add (i * Rep.size α + j)) = some cs[j] := by
        intro m
        induction m with
        | zero => exact fun _ => ⟨[], rfl, fun i hi => by simp at hi⟩
        | succ m ih =>
          intro hm
          obtain ⟨xs, hl, hx⟩ := ih (by omega)
          obtain ⟨x, hg, hc⟩ := each m (by omega)
          refine ⟨xs ++ [x], by simp [hl], fun i hi => ?_⟩
          by_cases hi2 : i < xs.length
          · rw [List.getElem_append_left hi2]; exact hx i hi2
          · have : i = m := by simp at hi; omega
            subst this
            rw [List.getElem_append_right (by omega)]
            simp only [hl, Nat.sub_self, List.getElem_cons_zero]
            exact ⟨hg, hc⟩
      exact this len (Nat.le_refl _)
    obtain ⟨xs, hxl, hx⟩ := hch
    have hbytes : (elems.length + rest.length) * P.bytesOf E ≤ reachBytes := by
      have := hww ((elems.length + rest.length) * P.bytesOf E) (by simp)
      exact this
    refine ⟨xs, ⟨some a, cap, by rw [hxl], ⟨by omega, hm, (fun e => by cases e), (fun hne => ?_)⟩⟩, ?_, fun x hx' => ?_⟩
    · have hspot : a.spot = none := by
        have h0 : 0 < xs.length := List.length_pos_iff.2 hne
        obtain ⟨_, cs, hr, hc⟩ := hx 0 h0
        have hcl := Rep.len hr
        have := hc 0 (by omega)
        simp only [Nat.zero_mul, Nat.zero_add, Addr.add, if_true] at this
        unfold World.cell? at this
        split at this
        · split at this
          · cases this
          · next h => simpa using h
        · cases this
      refine ⟨a.block, a.off, by cases a; simp_all, fun k hk => ?_⟩
      obtain ⟨_, cs, hr, hc⟩ := hx k hk
      refine ⟨cs, hr, fun j hj => ?_⟩
      rw [Phi.all_cell]
      have := hc j hj
      have e : a.add (k * Rep.size α + j) = ⟨a.block, a.off + k * Rep.size α + j, none⟩ := by
        unfold Addr.add
        split
        · next h0 => cases a; simp_all
        · simp
      rw [← e]; exact this
    · rw [hxl, ← hlen]
      exact Nat.le_trans (Nat.mul_le_mul_right _ (Nat.le_add_right _ _)) hbytes
    · obtain ⟨i, hi, rfl⟩ := List.getElem_of_mem hx'
      exact (hx i hi).1
/-- One field of a struct. -/
theorem Reads.field {T : TypeId} {fs : Array Field} (ht : P.underlying T = some (.struct fs)) {fuel base : Nat} {spare : Nat → Bool} {held : Bool} {cs : List Value} {d : DataW H} {ps : List MemPlace} (h : DataW.trod enc P W base spare held fuel T cs = some (d, ps)) (hw : ∀ n ∈ d.weights P T, n ≤ reachBytes)
    (i : Nat) {Ti off si : Nat} {α : Type} [Rep α] {G : α → Prop} (hfi : (fs[i]?).map (fun f => (f.type, f.offset)) = some (Ti, off)) (hc : P.cellsOf Ti = si) (R : Reads enc P W Ti α G) :
    ∃ x : α, Rep.rep (Phi.all W) x ((cs.drop off).take si) ∧ G x := by
  obtain ⟨f, hf, he⟩ := Option.map_eq_some_iff.1 hfi
  simp only [Prod.mk.injEq] at he
  obtain ⟨rfl, rfl⟩ := he
  obtain ⟨xs, n, _, hx, hlen, hxl, hall⟩ := DataW.trod_struct ht h
  injection hx with hd _
  subst hd
  have hi : i < fs.size := (Array.getElem?_eq_some_iff.1 hf).1
  have h1 := hall i f hf
  rw [List.getElem?_eq_getElem (by omega)] at h1
  have hww : ∀ m ∈ DataW.weights P T (.agg (xs.map (·.1))), m ≤ reachBytes := hw
  simp only [DataW.weights, ht] at hww
  subst hc
  exact R n base spare held _ _ _ h1 (fun m hm => hww m (DataW.weights_mem_each (j := i) (by simp [hf]) (by rw [List.getElem?_map, List.getElem?_eq_getElem (by omega)]; rfl) m hm))
theorem struct_len {T : TypeId} {fs : Array Field} (ht : P.underlying T = some (.struct fs)) {fuel base : Nat} {spare : Nat → Bool} {held : Bool} {cs : List Value} {d : DataW H} {ps : List MemPlace} (h : DataW.trod enc P W base spare held fuel T cs = some (d, ps)) : cs.length = P.cellsOf T := by
  obtain ⟨xs, n, _, hx, hlen, hxl, hall⟩ := DataW.trod_struct ht h
  exact hlen
theorem Reads.struct2 {T T1 T2 s1 s2 : Nat} {fs : Array Field} {α β : Type} [Rep α] [Rep β] {G1 : α → Prop} {G2 : β → Prop} (ht : P.underlying T = some (.struct fs))
    (f1 : (fs[0]?).map (fun f => (f.type, f.offset)) = some (T1, 0)) (f2 : (fs[1]?).map (fun f => (f.type, f.offset)) = some (T2, s1))
    (c1 : P.cellsOf T1 = s1) (c2 : P.cellsOf T2 = s2) (cT : P.cellsOf T = s1 + s2) (R1 : Reads enc P W T1 α G1) (R2 : Reads enc P W T2 β G2) :
    Reads enc P W T (α × β) (fun x => G1 x.1 ∧ G2 x.2) := by
  intro fuel base spare held cs d ps h hw
  have hl := struct_len ht h
  obtain ⟨x, r1, g1⟩ := Reads.field ht h hw 0 f1 c1 R1
  obtain ⟨y, r2, g2⟩ := Reads.field ht h hw 1 f2 c2 R2
  rw [List.drop_zero] at r1
  rw [List.take_of_length_le (by simp; omega)] at r2
  exact ⟨(x, y), rep_pair s1 r1 r2, g1, g2⟩
theorem Reads.struct3 {T T1 T2 T3 s1 s2 s3 : Nat} {fs : Array Field} {α β γ : Type} [Rep α] [Rep β] [Rep γ] {G1 : α → Prop} {G2 : β → Prop} {G3 : γ → Prop} (ht : P.underlying T = some (.struct fs))
    (f1 : (fs[0]?).map (fun f => (f.type, f.offset)) = some (T1, 0)) (f2 : (fs[1]?).map (fun f => (f.type, f.offset)) = some (T2, s1)) (f3 : (fs[2]?).map (fun f => (f.type, f.offset)) = some (T3, s1 + s2))
    (c1 : P.cellsOf T1 = s1) (c2 : P.cellsOf T2 = s2) (c3 : P.cellsOf T3 = s3) (cT : P.cellsOf T = s1 + s2 + s3) (R1 : Reads enc P W T1 α G1) (R2 : Reads enc P W T2 β G2) (R3 : Reads enc P W T3 γ G3) :
    Reads enc P W T (α × β × γ) (fun x => G1 x.1 ∧ G2 x.2.1 ∧ G3 x.2.2) := by
  intro fuel base spare held cs d ps h hw
  have hl := struct_len ht h
  obtain ⟨x, r1, g1⟩ := Reads.field ht h hw 0 f1 c1 R1
  obtain ⟨y, r2, g2⟩ := Reads.field ht h hw 1 f2 c2 R2
  obtain ⟨z, r3, g3⟩ := Reads.field ht h hw 2 f3 c3 R3
  rw [List.drop_zero] at r1
  rw [List.take_of_length_le (by simp; omega)] at r3
  exact ⟨(x, y, z), rep_pair s1 r1 (rep_pair s2 r2 (by rw [List.drop_drop]; exact r3)), g1, g2, g3⟩
theorem Reads.struct4 {T T1 T2 T3 T4 s1 s2 s3 s4 : Nat} {fs : Array Field} {α β γ δ : Type} [Rep α] [Rep β] [Rep γ] [Rep δ] {G1 : α → Prop} {G2 : β → Prop} {G3 : γ → Prop} {G4 : δ → Prop} (ht : P.underlying T = some (.struct fs))
    (f1 : (fs[0]?).map (fun f => (f.type, f.offset)) = some (T1, 0)) (f2 : (fs[1]?).map (fun f => (f.type, f.offset)) = some (T2, s1)) (f3 : (fs[2]?).map (fun f => (f.type, f.offset)) = some (T3, s1 + s2)) (f4 : (fs[3]?).map (fun f => (f.type, f.offset)) = some (T4, s1 + s2 + s3))
    (c1 : P.cellsOf T1 = s1) (c2 : P.cellsOf T2 = s2) (c3 : P.cellsOf T3 = s3) (c4 : P.cellsOf T4 = s4) (cT : P.cellsOf T = s1 + s2 + s3 + s4) (R1 : Reads enc P W T1 α G1) (R2 : Reads enc P W T2 β G2) (R3 : Reads enc P W T3 γ G3) (R4 : Reads enc P W T4 δ G4) :
    Reads enc P W T (α × β × γ × δ) (fun x => G1 x.1 ∧ G2 x.2.1 ∧ G3 x.2.2.1 ∧ G4 x.2.2.2) := by
  intro fuel base spare held cs d ps h hw
  have hl := struct_len ht h
  obtain ⟨x, r1, g1⟩ := Reads.field ht h hw 0 f1 c1 R1
  obtain ⟨y, r2, g2⟩ := Reads.field ht h hw 1 f2 c2 R2
  obtain ⟨z, r3, g3⟩ := Reads.field ht h hw 2 f3 c3 R3
  obtain ⟨u, r4, g4⟩ := Reads.field ht h hw 3 f4 c4 R4
  rw [List.drop_zero] at r1
  rw [List.take_of_length_le (by simp; omega)] at r4
  exact ⟨(x, y, z, u), rep_pair s1 r1 (rep_pair s2 r2 (rep_pair s3 (by rw [List.drop_drop]; exact r3) (by rw [List.drop_drop, List.drop_drop, ← Nat.add_assoc]; exact r4))), g1, g2, g3, g4⟩
end
end Go.Proofs.YtnlhalnjbkpdnaaGreatDoor

namespace Go.Proofs.YtnlhalnjbkpdnaaGreatDoor
open Go.RowKit
set_option linter.unusedVariables false
set_option linter.unusedSimpArgs false

theorem slI : SliceTy Tryz.prog 48 3 (.int .i64 0) (Rep.size Int) 8 := ⟨Tryz.underlying48, by kernel_rfl, rfl, by decide, by decide⟩
theorem rInt (H : Type) (enc : TypeId × Value → H) (W : World) : Reads enc Tryz.prog W 3 Int IsI64 := Reads.int Tryz.underlying3
theorem rStr (H : Type) (enc : TypeId × Value → H) (W : World) : Reads enc Tryz.prog W 9 ByteArray StrG := Reads.str Tryz.underlying9

def outB (n lo hi : Int) : Bool := decide (n < lo) || decide (n > hi)
theorem getD_elem0 {α : Type} (d : α) (l : List α) (k : Nat) (h : k < l.length) : l.getD k d = l[k] := by
  rw [List.getD_eq_getElem?_getD, List.getElem?_eq_getElem h]; rfl
theorem take_snoc {α : Type} (l : List α) (k : Nat) (h : k < l.length) : l.take (k + 1) = l.take k ++ [l[k]] := by
  rw [List.take_add_one, List.getElem?_eq_getElem h]; rfl
theorem take_snocD {α : Type} (d : α) (l : List α) (k n : Nat) (hn : l.length = n) (h : k < n) : l.take (k + 1) = l.take k ++ [l.getD k d] := by
  subst hn
  rw [take_snoc l k h, getD_elem0 d l k h]

theorem SlV.intsD {φ : Phi} {a : Option Addr} {cap : Nat} {xs : List Int} (h : SlV φ a cap xs) {k n : Nat} (hn : Hid (xs.length = n)) (hk : k < n) :
    ∃ b off, a = some ⟨b, off, none⟩ ∧ ∀ k, k < n → ∀ w, Fz φ w → b < w.heap.size ∧ w.cell? ⟨b, off + k, none⟩ = some (.int .i64 (xs.getD k 0)) := by
  obtain ⟨b, off, ha, hc⟩ := h.at_ (by intro e; subst e; have := hn.out; simp at this; omega)
  refine ⟨b, off, ha, fun k hk w hw => ?_⟩
  obtain ⟨cs, hr, hj⟩ := hc k (by rw [hn.out]; exact hk)
  have hcs' : cs = [.int .i64 (xs[k]'(by rw [hn.out]; exact hk))] := hr
  subst hcs'
  have := hj 0 (by simp)
  simp [Rep.size] at this
  exact ⟨hw.lt this, by rw [hw.cell this, getD_elem0 _ _ _ (by rw [hn.out]; exact hk)]⟩
theorem Own.intsD {B : Nat} {φ : Phi} {w : World} {E : TypeId} {a : Option Addr} {cap : Nat} {xs : List Int} (h : Own B φ w E a cap xs) {k n : Nat} (hn : Hid (xs.length = n)) (hk : k < n) :
    ∃ g, a = some ⟨g, 0, none⟩ ∧ g < w.heap.size ∧ ∀ k, k < n → w.cell? ⟨g, k, none⟩ = some (.int .i64 (xs.getD k 0)) ∧ w.frozen? ⟨g, k, none⟩ = false ∧
      ∀ y w0 φ0, Inv B w0 φ0 φ w → Own B φ (w.setCell ⟨g, k, none⟩ (.int .i64 y)) E a cap (xs.set k y) ∧ Inv B w0 φ0 φ (w.setCell ⟨g, k, none⟩ (.int .i64 y)) := by
  obtain ⟨g, rfl, _, hg, _, hf, hc⟩ := h.elem (k := k) (by rw [hn.out]; exact hk)
  refine ⟨g, rfl, hg, fun k hk => ?_⟩
  have hk' : k < xs.length := by rw [hn.out]; exact hk
  obtain ⟨cs, hcs, hj⟩ := hc k hk'
  have hcs' : cs = [.int .i64 xs[k]] := hcs
  subst hcs'
  have h0 := hj 0 (by simp)
  simp [Rep.size] at h0
  refine ⟨by rw [h0, getD_elem0 _ _ _ hk'], hf k, fun y w0 φ0 hi => ?_⟩
  have := h.setCell hi hk' (y := y) (j := 0) (u := .int .i64 y) hj rfl (by simp) rfl
  simpa [Rep.size] using this

/-- The cells of a slice that reads as a list, at an index. -/
theorem SlV.cellsD {α : Type} [Rep α] {φ : Phi} {a : Option Addr} {cap : Nat} {xs : List α} (d : α) (h : SlV φ a cap xs) {k n : Nat} (hn : Hid (xs.length = n)) (hk : k < n) :
    ∃ b off, a = some ⟨b, off, none⟩ ∧ ∀ k, k < n → ∃ cs, Rep.rep φ (xs.getD k d) cs ∧ ∀ j (hj : j < cs.length), φ.cell? ⟨b, off + k * Rep.size α + j, none⟩ = some cs[j] := by
  obtain ⟨b, off, ha, hc⟩ := h.at_ (by intro e; subst e; have := hn.out; simp at this; omega)
  refine ⟨b, off, ha, fun k hk => ?_⟩
  have hk' : k < xs.length := by rw [hn.out]; exact hk
  rw [getD_elem0 _ _ _ hk']
  exact hc k hk'

theorem str_eq_t {a b : ByteArray} (h : a = b) : (a.toList == b.toList) = true := by rw [h]; simp
theorem str_eq_f {a b : ByteArray} (h : ¬ a = b) : (a.toList == b.toList) = false := by
  rw [Bool.eq_false_iff]
  intro e
  have e := eq_of_beq e
  rw [ByteArray.toList_eq, ByteArray.toList_eq] at e
  obtain ⟨⟨x⟩⟩ := a
  obtain ⟨⟨y⟩⟩ := b
  exact h (by cases (e : x = y); rfl)

section
variable {σ ρ : Type} {step : Nat → σ → Except ρ σ} {n k : Nat} {s s' : σ} {tot : Except ρ σ} {r : ρ}
end

/-- The first that is not 0. -/
def scan (f : Nat → Int) : Nat → Int
  | 0 => 0
  | n + 1 => if scan f n ≠ 0 then scan f n else f n
theorem scan_zero (f : Nat → Int) : ∀ n, (∀ i, i < n → f i = 0) → scan f n = 0
  | 0, _ => rfl
  | n + 1, h => by rw [scan, scan_zero f n (fun i hi => h i (by omega)), if_neg (by simp)]; exact h n (by omega)
theorem scan_stop {f : Nat → Int} {n k : Nat} (h : ∀ i, i < k → f i = 0) (hk : k < n) (hf : f k ≠ 0) : scan f n = f k := by
  have : ∀ d, scan f (k + 1 + d) = f k := by
    intro d
    induction d with
    | zero => rw [Nat.add_zero, scan, scan_zero f k h, if_neg (by simp)]
    | succ d ih => rw [← Nat.add_assoc, scan, ih, if_pos hf]
  have e : n = k + 1 + (n - (k + 1)) := by omega
  rw [e]; exact this _
theorem scan_all {f : Nat → Int} : ∀ n, scan f n = 0 → ∀ i, i < n → f i = 0
  | 0, _, i, hi => by omega
  | n + 1, h, i, hi => by
    unfold scan at h
    split at h
    · next hne => exact absurd h hne
    · next hz =>
      have hz : scan f n = 0 := by simpa using hz
      by_cases e : i = n
      · subst e; exact h
      · exact scan_all n hz i (by omega)
theorem next_ok {f : Nat → Int} {k : Nat} (h : Hid (∀ i, i < k → f i = 0)) (hk : f k = 0) : Hid (∀ i, i < k + 1 → f i = 0) := by
  refine Lib.hid fun i hi => ?_
  by_cases e : i = k
  · subst e; exact hk
  · exact h.out i (by omega)
theorem none_yet (f : Nat → Int) : Hid (∀ i, i < 0 → f i = 0) := Lib.hid (fun i hi => by omega)
end Go.Proofs.YtnlhalnjbkpdnaaGreatDoor

namespace Go.Proofs.YtnlhalnjbkpdnaaGreatDoor
open Go.RowKit
set_option linter.unusedVariables false
set_option linter.unusedSimpArgs false

/-- A type of keys. -/
class KeyV (κ : Type) where
  v : κ → Value
class Key (κ : Type) [DecidableEq κ] extends KeyV κ where
  d : TypeDesc
  same : ∀ a b : κ, Instr.sameNow d (v a) (v b) = some (decide (a = b))
  isKey : ∀ a, MapKept.IsKey d (v a)
  bits : ∀ n (a : κ), Instr.sameBits n (v a) (v a) = true
instance : Key Int where
  v := fun n => .int .i64 n
  d := .int .i64
  same := by intro a b; simp [Instr.sameNow]; rw [Bool.eq_iff_iff]; simp
  isKey := fun a => rfl
  bits := by intro n a; cases n <;> simp [Instr.sameBits]
instance : Key ByteArray where
  v := fun s => .string s
  d := .string
  same := by intro a b; simp [Instr.sameNow]; rw [Bool.eq_iff_iff]; simp [MapKept.bytes_beq]
  isKey := fun a => trivial
  bits := by intro n a; cases n <;> simp [Instr.sameBits, MapKept.bytes_beq]

section
variable {κ α : Type} [DecidableEq κ]
def mget (m : List (κ × α)) (k : κ) : Option α := (m.find? (fun p => decide (p.1 = k))).map (·.2)
def mput (m : List (κ × α)) (k : κ) (x : α) : List (κ × α) := if (mget m k).isSome then m.map (fun p => if p.1 = k then (k, x) else p) else m ++ [(k, x)]
theorem mget_nil (k : κ) : mget ([] : List (κ × α)) k = none := rfl
theorem mget_cons (p : κ × α) (m : List (κ × α)) (k : κ) : mget (p :: m) k = if p.1 = k then some p.2 else mget m k := by
  unfold mget
  rw [List.find?_cons]
  by_cases h : p.1 = k <;> simp [h]
theorem mget_append (a b : List (κ × α)) (k : κ) : mget (a ++ b) k = (mget a k).or (mget b k) := by
  induction a with
  | nil => simp [mget_nil]
  | cons p a ih => rw [List.cons_append, mget_cons, mget_cons, ih]; split <;> simp
theorem mget_map_ne (m : List (κ × α)) (k k' : κ) (x : α) (h : k' ≠ k) : mget (m.map (fun p => if p.1 = k then (k, x) else p)) k' = mget m k' := by
  induction m with
  | nil => rfl
  | cons p m ih =>
    rw [List.map_cons, mget_cons, mget_cons, ih]
    by_cases e : p.1 = k
    · rw [if_pos e, if_neg (fun e2 => h e2.symm), if_neg (fun e2 => h (e2.symm.trans e))]
    · rw [if_neg e]
theorem mget_map_eq (m : List (κ × α)) (k : κ) (x : α) (h : (mget m k).isSome = true) : mget (m.map (fun p => if p.1 = k then (k, x) else p)) k = some x := by
  induction m with
  | nil => simp [mget_nil] at h
  | cons p m ih =>
    rw [List.map_cons, mget_cons]
    by_cases e : p.1 = k
    · rw [if_pos e]; simp
    · rw [if_neg e, if_neg e]
      rw [mget_cons, if_neg e] at h
      exact ih h
theorem mget_mput (m : List (κ × α)) (k k' : κ) (x : α) : mget (mput m k x) k' = if k' = k then some x else mget m k' := by
  unfold mput
  by_cases h : (mget m k).isSome = true
  · rw [if_pos h]
    by_cases e : k' = k
    · subst e; rw [if_pos rfl]; exact mget_map_eq m k' x h
    · rw [if_neg e]; exact mget_map_ne m k k' x e
  · rw [if_neg h, mget_append, mget_cons, mget_nil]
    have hn : mget m k = none := by cases hh : mget m k <;> simp_all
    by_cases e : k' = k
    · subst e; rw [hn]; simp
    · rw [if_neg (fun e2 => e e2.symm), if_neg e]; simp
theorem keys_map (m : List (κ × α)) (k : κ) (x : α) : (m.map (fun p => if p.1 = k then (k, x) else p)).map (·.1) = m.map (·.1) := by
  rw [List.map_map]
  apply List.map_congr_left
  intro p _
  simp only [Function.comp]
  split
  · next h => exact h.symm
  · rfl
theorem mget_none_notMem (m : List (κ × α)) (k : κ) (h : mget m k = none) : k ∉ m.map (·.1) := by
  intro hm
  obtain ⟨p, hp, rfl⟩ := List.mem_map.1 hm
  unfold mget at h
  rw [Option.map_eq_none_iff, List.find?_eq_none] at h
  exact h p hp (by simp)
theorem mput_nodup (m : List (κ × α)) (k : κ) (x : α) (h : (m.map (·.1)).Nodup) : ((mput m k x).map (·.1)).Nodup := by
  unfold mput
  split
  · rw [keys_map]; exact h
  · next hn =>
    have hn : mget m k = none := by cases hh : mget m k <;> simp_all
    have := mget_none_notMem m k hn
    rw [List.map_append, List.nodup_append]
    refine ⟨h, by simp, ?_⟩
    intro a ha b hb
    simp at hb
    subst hb
    intro e
    subst e
    exact this ha

end

section
variable {κ α : Type} [KeyV κ]

/-- What a map's entries say: pairs of a key and a value, in their order. -/
structure MapO (vr : α → Value → Prop) (o : Obj) (m : List (κ × α)) : Prop where
  ex : ∃ (es : Array MapEntry) (clock : Nat), o = .map es clock ∧ es.size = m.length ∧
    (∀ i (h : i < m.length), ∃ e, es[i]? = some e ∧ e.key = KeyV.v m[i].1 ∧ vr m[i].2 e.val) ∧ (∀ (i : Nat) (e : MapEntry), es[i]? = some e → e.born < clock) ∧ (∀ (i j : Nat) (e e' : MapEntry), es[i]? = some e → es[j]? = some e' → e.born = e'.born → i = j)
  nodup : (m.map (·.1)).Nodup

theorem MapO.empty {vr : α → Value → Prop} : MapO vr (.map #[] 0) ([] : List (κ × α)) := ⟨⟨#[], 0, rfl, rfl, fun i h => by simp at h, fun i e h => by simp at h, fun i j e e' h => by simp at h⟩, by simp⟩
end
section
variable {κ α : Type} [DecidableEq κ] [Key κ]
/-- Where a key lies. -/
theorem findNow_spec (vr : α → Value → Prop) (k : κ) : ∀ (es : List MapEntry) (m : List (κ × α)) (i : Nat), es.length = m.length → (∀ j (h : j < m.length), ∃ e, es[j]? = some e ∧ e.key = KeyV.v m[j].1 ∧ vr m[j].2 e.val) →
    (mget m k = none ∧ Instr.findNow (Key.d κ) (KeyV.v k) es i = some none) ∨
    ∃ j x e, j < m.length ∧ m[j]? = some (k, x) ∧ es[j]? = some e ∧ vr x e.val ∧ mget m k = some x ∧ Instr.findNow (Key.d κ) (KeyV.v k) es i = some (some (i + j, e.val))
  | [], [], i, _, _ => .inl ⟨rfl, rfl⟩
  | [], p :: m, i, hl, _ => by simp at hl
  | e :: es, [], i, hl, _ => by simp at hl
  | e :: es, p :: m, i, hl, h => by
    obtain ⟨e0, h0, hk, hv⟩ := h 0 (by simp)
    simp at h0 hk hv
    subst h0
    simp only [Instr.findNow, hk, Key.same]
    by_cases hkk : k = p.1
    · subst hkk
      right
      refine ⟨0, p.2, e, by simp, by simp, by simp, hv, by rw [mget_cons, if_pos rfl], by simp⟩
    · rw [decide_eq_false hkk]
      rcases findNow_spec vr k es m (i + 1) (by simpa using hl) (fun j hj => by
        obtain ⟨e', q⟩ := h (j + 1) (by simp; omega)
        exact ⟨e', by simpa using q⟩) with ⟨a, b⟩ | ⟨j, x, e', a, b, c, d', f, g⟩
      · exact .inl ⟨by rw [mget_cons, if_neg (fun e => hkk e.symm)]; exact a, by simpa using b⟩
      · refine .inr ⟨j + 1, x, e', by simp; omega, by simpa using b, by simpa using c, d', by rw [mget_cons, if_neg (fun e => hkk e.symm)]; exact f, ?_⟩
        rw [show i + (j + 1) = i + 1 + j by omega]; simpa using g

/-- The world with a map's block set. -/
def setMap (w : World) (r : Nat) (o : Obj) : World := { w with heap := w.heap.setIfInBounds r o }
theorem setMap_same {w : World} {r : Nat} (o : Obj) (h : r < w.heap.size) : (setMap w r o).heap[r]? = some o := by
  simp [setMap, h]
theorem setMap_grown (w : World) (r : Nat) (o : Obj) : w.grownBy (setMap w r o) (some r) :=
  ⟨rfl, rfl, rfl, by simp [setMap], fun k _ hk => by simp only [setMap]; rw [Array.getElem?_setIfInBounds_ne (fun e => hk (by rw [e]))]⟩
variable {P : Program} {w : World} {vr : α → Value → Prop} {T kt et : TypeId}
theorem run_lookup (ht : P.underlying T = some (.map kt et)) (hk : P.underlying kt = some (Key.d κ)) {r : Nat} {o : Obj} (hr : w.heap[r]? = some o) {m : List (κ × α)} (hm : MapO vr o m) (k : κ) (ok : Bool) {z : Value} (hz : (zeroValue et).run P w = .ok z w) :
    (∃ x v, mget m k = some x ∧ vr x v ∧ (Instr.lookup T (.map (some r)) (KeyV.v k) ok).run P w = .ok (if ok then .tuple #[v, .bool true] else v) w) ∨
    (mget m k = none ∧ (Instr.lookup T (.map (some r)) (KeyV.v k) ok).run P w = .ok (if ok then .tuple #[z, .bool false] else z) w) := by
  obtain ⟨es, clock, rfl, hlen, hat, _, _⟩ := hm.ex
  have hg : ∀ (w : World), w.heap[r]? = some (.map es clock) → (getObj r).run P w = .ok (.map es clock) w := fun w h => by simp only [getObj, Sem.run, h]
  rcases findNow_spec vr k es.toList m 0 (by simpa using hlen) (fun j hj => by obtain ⟨e, a, b⟩ := hat j hj; exact ⟨e, by simpa using a, b⟩) with ⟨a, b⟩ | ⟨j, x, e, a, b, c, d, f, g⟩
  · right
    refine ⟨a, ?_⟩
    unfold Instr.lookup Instr.findKey
    simp only [Sem.run_bind, run_underlying ht, run_underlying hk, Result.andThen, hg w hr, MapKept.run_checkKey hk (Key.isKey k), b, Sem.run_pure, hz]
  · left
    refine ⟨x, e.val, f, d, ?_⟩
    unfold Instr.lookup Instr.findKey
    simp only [Sem.run_bind, run_underlying ht, run_underlying hk, Result.andThen, hg w hr, MapKept.run_checkKey hk (Key.isKey k), g, Sem.run_pure]
/-- A map's block behind a store. -/
def putObj (d : TypeDesc) (o : Obj) (key v : Value) : Obj :=
  match o with
  | .map es clock =>
    match Instr.findNow d key es.toList 0 with
    | some (some (i, _)) => .map (es.modify i fun e => { e with key := key, val := v }) clock
    | _ => .map (es.push { key := key, val := v, born := clock }) (clock + 1)
  | o => o
theorem run_mapUpdate (ht : P.underlying T = some (.map kt et)) (hk : P.underlying kt = some (Key.d κ)) {r : Nat} {o : Obj} (hr : w.heap[r]? = some o) {m : List (κ × α)} (hm : MapO vr o m) (k : κ) {x : α} {v : Value} (hv : vr x v) :
    (Instr.mapUpdate T (.map (some r)) (KeyV.v k) v).run P w = .ok () (setMap w r (putObj (Key.d κ) o (KeyV.v k) v)) ∧ MapO vr (putObj (Key.d κ) o (KeyV.v k) v) (mput m k x) := by
  obtain ⟨es, clock, rfl, hlen, hat, hborn, huniq⟩ := hm.ex
  have hg : (getObj r).run P w = .ok (.map es clock) w := by simp only [getObj, Sem.run, hr]
  have hs : ∀ o', (setObj r o').run P w = .ok () (setMap w r o') := fun o' => by simp only [setObj, Sem.run, hr, setMap]
  have hnd := mput_nodup m k x hm.nodup
  rcases findNow_spec vr k es.toList m 0 (by simpa using hlen) (fun j hj => by obtain ⟨e, a, b⟩ := hat j hj; exact ⟨e, by simpa using a, b⟩) with ⟨a, b⟩ | ⟨j, x0, e, a, b, c, d, f, g⟩
  · have hp : putObj (Key.d κ) (.map es clock) (KeyV.v k) v = .map (es.push { key := KeyV.v k, val := v, born := clock }) (clock + 1) := by simp only [putObj, b]
    rw [hp]
    refine ⟨?_, ⟨⟨_, _, rfl, ?_, ?_, ?_, ?_⟩, hnd⟩⟩
    · unfold Instr.mapUpdate Instr.findKey
      simp only [Sem.run_bind, run_underlying ht, run_underlying hk, Result.andThen, hg, MapKept.run_checkKey hk (Key.isKey k), b, Sem.run_pure, hs]
    · rw [mput, a]; simp [hlen]
    · intro i hi
      have em : mput m k x = m ++ [(k, x)] := by rw [mput, a]; rfl
      rw [Array.getElem?_push]
      by_cases h2 : i = es.size
      · subst h2
        refine ⟨_, if_pos rfl, ?_, ?_⟩
        · simp [em, hlen]
        · simp [em, hlen]; exact hv
      · have hi' : i < m.length := by simp [em] at hi; omega
        obtain ⟨e, q1, q2, q3⟩ := hat i hi'
        refine ⟨e, by rw [if_neg h2]; exact q1, ?_, ?_⟩
        · simp only [em]; rw [List.getElem_append_left hi']; exact q2
        · simp only [em]; rw [List.getElem_append_left hi']; exact q3
    · intro i e he
      rw [Array.getElem?_push] at he
      split at he
      · cases he; simp
      · have := hborn i e he; omega
    · intro i j e e' he he' hb
      rw [Array.getElem?_push] at he he'
      split at he
      · split at he'
        · omega
        · cases he; have := hborn j e' he'; simp at hb; omega
      · split at he'
        · cases he'; have := hborn i e he; simp at hb; omega
        · exact huniq i j e e' he he' hb
  · have hj : es[j]? = some e := by simpa using c
    have hkey : e.key = KeyV.v k := by
      obtain ⟨e', q1, q2, _⟩ := hat j a
      rw [hj] at q1; cases q1
      rw [q2]
      have := (List.getElem?_eq_some_iff.1 b).2
      rw [this]
    have em : mput m k x = m.map (fun p => if p.1 = k then (k, x) else p) := by rw [mput, f]; rfl
    have hp : putObj (Key.d κ) (.map es clock) (KeyV.v k) v = .map (es.modify j fun e => { e with key := KeyV.v k, val := v }) clock := by simp only [putObj, g, Nat.zero_add]
    rw [hp]
    refine ⟨?_, ⟨⟨_, _, rfl, ?_, ?_, ?_, ?_⟩, hnd⟩⟩
    · unfold Instr.mapUpdate Instr.findKey Instr.keyThatStays
      simp only [Sem.run_bind, run_underlying ht, run_underlying hk, Result.andThen, hg, MapKept.run_checkKey hk (Key.isKey k), g, Sem.run_pure, Nat.zero_add, hj, Option.map_some, Option.getD_some, hkey, Key.bits, if_true, hs]
    · rw [em]; simp [hlen]
    · intro i hi
      have hi' : i < m.length := by rw [em] at hi; simpa using hi
      obtain ⟨e1, q1, q2, q3⟩ := hat i hi'
      rw [Array.getElem?_modify]
      simp only [em, List.getElem_map]
      by_cases h2 : j = i
      · subst h2
        rw [if_pos rfl, q1]
        have hmk : m[j].1 = k := by rw [(List.getElem?_eq_some_iff.1 b).2]
        exact ⟨_, rfl, by simp [hmk], by simp [hmk]; exact hv⟩
      · rw [if_neg h2]
        have hmk : m[i].1 ≠ k := by
          intro he
          have hnd2 := hm.nodup
          have hjk : m[j].1 = k := by rw [(List.getElem?_eq_some_iff.1 b).2]
          have hpw := List.pairwise_iff_getElem.1 hnd2
          rcases Nat.lt_trichotomy i j with hl | hl | hl
          · exact hpw i j (by simpa using hi') (by simpa using a) hl (by simp [he, hjk])
          · exact h2 hl.symm
          · exact hpw j i (by simpa using a) (by simpa using hi') hl (by simp [he, hjk])
        exact ⟨e1, q1, by simp [hmk, q2], by simp [hmk, q3]⟩
    · intro i e' he
      rw [Array.getElem?_modify] at he
      split at he
      · next h2 => subst h2; rw [hj] at he; simp at he; subst he; have := hborn j e hj; simpa using this
      · exact hborn i e' he
    · intro i i' e1 e2 h1 h2 hb
      have q : ∀ (i : Nat) (e' : MapEntry), (es.modify j fun e => { e with key := KeyV.v k, val := v })[i]? = some e' → ∃ e0, es[i]? = some e0 ∧ e0.born = e'.born := by
        intro i e' he
        rw [Array.getElem?_modify] at he
        split at he
        · next h2 => subst h2; rw [hj] at he; simp at he; subst he; exact ⟨e, hj, rfl⟩
        · exact ⟨e', he, rfl⟩
      obtain ⟨f1, g1, g2⟩ := q i e1 h1
      obtain ⟨f2, g3, g4⟩ := q i' e2 h2
      exact huniq i i' f1 f2 g1 g3 (by omega)
end
instance : LawfulBEq ByteArray where
  eq_of_beq := fun h => (MapKept.bytes_beq _ _).1 h
  rfl := (MapKept.bytes_beq _ _).2 rfl
end Go.Proofs.YtnlhalnjbkpdnaaGreatDoor

namespace Go.Proofs.YtnlhalnjbkpdnaaGreatDoor
open Go.RowKit
set_option linter.unusedVariables false
set_option linter.unusedSimpArgs false
theorem Own.lit {α : Type} [Rep α] {B : Nat} {w0 w : World} {φ0 φ : Phi} (hi : Inv B w0 φ0 φ w) (E : TypeId) {xs : List α} {arr : Array Value} (h : RepL φ xs arr.toList) (hm : xs.length ≤ maxLen) : Own B φ (w.alloc (.cells arr E)) E (some ⟨w.heap.size, 0, none⟩) xs.length xs := by
  have hl := h.len
  have hs : arr.size = xs.length * Rep.size α := by rw [← hl]; simp
  refine ⟨⟨arr.toList, ⟨by rw [hl], .inr ⟨w.heap.size, xs.length, arr, rfl, hi.size, heap_alloc_new w _, Nat.le_refl _, hm, hs, ?_⟩⟩, h⟩, fun x hx => ?_⟩
  · rw [List.take_of_length_le]; rw [hl]; exact Nat.le_refl _
  · cases hx
    cases hφ : φ w.heap.size with
    | none => rfl
    | some ob => have := hi.fz.mlt hφ; omega
/-- A row of its own, frozen at once. -/
theorem SlV.lit {α : Type} [Rep α] {w : World} {φ : Phi} (hφ : Fz φ w) (E : TypeId) {xs : List α} {arr : Array Value} (h : RepL φ xs arr.toList) (hm : xs.length ≤ maxLen) : ∃ φ', φ.le φ' ∧ Inv w.heap.size w φ φ' (w.alloc (.cells arr E)) ∧ SlV φ' (some ⟨w.heap.size, 0, none⟩) xs.length xs := by
  obtain ⟨φ', h1, h2, h3, _⟩ := (Own.lit (Inv.start hφ) E h hm).release ((Inv.start hφ).alloc _)
  exact ⟨φ', h1, h2, h3⟩
def SlPost {α : Type} [Rep α] (r : List α × Int) (φ : Phi) (w : World) (e : Ending) (w' : World) : Prop :=
  ∃ a cap φ', e = .returned (.tuple #[.slice a r.1.length cap, .int .i64 r.2]) ∧ Inv w.heap.size w φ φ' w' ∧ SlV φ' a cap r.1
/-- A call's own slice and worlds. -/
structure OwSt {α : Type} [Rep α] (w0 : World) (φ : Phi) (E : TypeId) (ao : Option Addr) (co : Nat) (out : List α) (wr : World) : Prop where
  inv : Inv w0.heap.size w0 φ φ wr
  own : Own w0.heap.size φ wr E ao co out
theorem OwSt.alloc {α : Type} [Rep α] {w0 wr : World} {φ : Phi} {E : TypeId} {ao : Option Addr} {co : Nat} {out : List α} (h : OwSt w0 φ E ao co out wr) (o : Obj) : OwSt w0 φ E ao co out (wr.alloc o) := ⟨h.inv.alloc o, h.own.alloc o⟩
theorem OwSt.drewN {α : Type} [Rep α] {w0 wr : World} {φ : Phi} {E : TypeId} {ao : Option Addr} {co : Nat} {out : List α} (h : OwSt w0 φ E ao co out wr) (q : Nat) : OwSt w0 φ E ao co out (wr.drewN q) := ⟨h.inv.drewN q, h.own.drewN q⟩
theorem OwSt.callB {α : Type} [Rep α] {w0 wr w' : World} {φ : Phi} {E : TypeId} {ao : Option Addr} {co : Nat} {out : List α} (h : OwSt w0 φ E ao co out wr) (hb : Below wr.heap.size wr w') : OwSt w0 φ E ao co out w' := ⟨h.inv.callB hb, h.own.callB hb⟩
/-- A store into a block of the call's own that is not the slice's. -/
theorem OwSt.set {α : Type} [Rep α] {w0 wr : World} {φ : Phi} {E : TypeId} {ao : Option Addr} {co : Nat} {out : List α} (h : OwSt w0 φ E ao co out wr) {g off : Nat} (hg : w0.heap.size ≤ g) (hφ : φ g = none) (ha : ∀ x, ao = some x → x.block ≠ g) (u : Value) : OwSt w0 φ E ao co out (wr.setCell ⟨g, off, none⟩ u) :=
  ⟨h.inv.setCell hg hφ u, h.own.other (row := some g) ⟨rfl, rfl, rfl, by simp [World.setCell], fun k _ hk => Below.heap_setCell _ _ _ _ (by intro e; exact hk (by rw [e]))⟩ (fun x hx e => ha x hx (by cases e; rfl))⟩
theorem Fz.new_none {φ : Phi} {w : World} (h : Fz φ w) {b : Nat} (hb : w.heap.size ≤ b) : φ b = none := by
  cases hφ : φ b with
  | none => rfl
  | some o => have := h.mlt hφ; omega
theorem Inv.frz {B : Nat} {w0 w : World} {φ0 φ : Phi} (hi : Inv B w0 φ0 φ w) (o : Obj) : ∃ φ', φ.le φ' ∧ Inv B w0 φ0 φ' (w.alloc o) ∧ φ' w.heap.size = some o := by
  have hn : φ w.heap.size = none := by
    cases h : φ w.heap.size with
    | none => rfl
    | some o => have := hi.fz.mlt h; omega
  have h2 := hi.alloc o
  refine ⟨φ.upd w.heap.size o, φ.le_upd _ _ hn, ⟨h2.bel, h2.base, h2.fz.upd (heap_alloc_new w o), hi.le.trans (φ.le_upd _ _ hn), fun b hb => ?_⟩, by unfold Phi.upd; rw [if_pos rfl]⟩
  have := hi.size
  unfold Phi.upd
  rw [if_neg (by omega)]
  exact hi.new b hb
theorem Fz.blk {φ : Phi} {w : World} (h : Fz φ w) {g : Nat} {cs : Array Value} {T : TypeId} (hg : φ g = some (.cells cs T)) : Blk w g cs T := h _ _ hg

def SlPost1 {α : Type} [Rep α] (xs : List α) (φ : Phi) (w : World) (e : Ending) (w' : World) : Prop :=
  ∃ a cap φ', e = .returned (.slice a xs.length cap) ∧ Inv w.heap.size w φ φ' w' ∧ SlV φ' a cap xs
theorem SlV.take {α : Type} [Rep α] {φ : Phi} {a : Option Addr} {cap : Nat} {xs : List α} (h : SlV φ a cap xs) (k : Nat) : SlV φ a cap (xs.take k) :=
  ⟨by have := h.capn; rw [List.length_take]; omega, h.capm, h.nil, fun hne => by
    obtain ⟨b, off, ha, hc⟩ := h.at_ (by intro e; subst e; simp at hne)
    refine ⟨b, off, ha, fun j hj => ?_⟩
    rw [List.length_take] at hj
    obtain ⟨cs, h1, h2⟩ := hc j (by omega)
    exact ⟨cs, by rw [List.getElem_take]; exact h1, h2⟩⟩
end Go.Proofs.YtnlhalnjbkpdnaaGreatDoor

namespace Go.Proofs.YtnlhalnjbkpdnaaGreatDoor
open Go.RowKit
set_option linter.unusedVariables false
set_option linter.unusedSimpArgs false
/-- A slice's header. -/
structure Hdr where
  a : Option Addr
  n : Nat
  c : Nat
instance : Rep Hdr where
  size := 1
  rep := fun _ x cs => cs = [.slice x.a x.n x.c]
  len := by intro _ _ _ h; subst h; rfl
  mono := fun _ h => h
  one := by intro _ _ _ h u hu; subst h; simp at hu; subst hu; rfl
section
variable {α : Type} [Rep α]
end
section
variable {α β : Type} [Rep α] [Rep β] {w0 wr w' : World} {φ : Phi} {E F : TypeId} {a1 a1' a2 a2' : Option Addr} {c1 c1' c2 c2' : Nat} {xs xs' : List α} {ys ys' : List β}
/-- The second one frozen. -/
theorem Ow2.rel2 (h : Ow2 w0 φ E F a1 c1 xs a2 c2 ys wr) : ∃ φ', φ.le φ' ∧ (∀ b, b < w0.heap.size → φ' b = φ b) ∧ Inv w0.heap.size w0 φ' φ' wr ∧ Own w0.heap.size φ' wr E a1 c1 xs ∧ SlV φ' a2 c2 ys := by
  obtain ⟨φ1, l1, i1, s1, f1⟩ := h.o2.release h.inv
  refine ⟨φ1, l1, i1.new, ⟨i1.bel, i1.base, i1.fz, φ1.le_refl, fun _ _ => rfl⟩, ?_, s1⟩
  obtain ⟨⟨cells, hr, hl⟩, hfr⟩ := h.o1
  refine ⟨⟨cells, hr, hl.mono l1⟩, fun y hy => ?_⟩
  rw [f1 _ (fun e => ?_)]
  · exact hfr y hy
  · cases a2 with
    | none => cases e
    | some z => exact h.ne y z hy rfl (by simpa using e)
/-- A store into the first one's row. -/
theorem Ow2.put1 {g : Nat} (h : Ow2 w0 φ E F (some ⟨g, 0, none⟩) c1 xs a2 c2 ys wr) {off : Nat} {u : Value} (ho : Own w0.heap.size φ (wr.setCell ⟨g, off, none⟩ u) E (some ⟨g, 0, none⟩) c1 xs') (hi : Inv w0.heap.size w0 φ φ (wr.setCell ⟨g, off, none⟩ u)) : Ow2 w0 φ E F (some ⟨g, 0, none⟩) c1 xs' a2 c2 ys (wr.setCell ⟨g, off, none⟩ u) := by
  have hgr : wr.grownBy (wr.setCell ⟨g, off, none⟩ u) (some g) := ⟨rfl, rfl, rfl, by simp [World.setCell], fun k _ hk => Below.heap_setCell _ _ _ _ (by intro e; exact hk (by rw [e]))⟩
  exact ⟨hi, ho, h.o2.other hgr (fun y hy e => h.ne _ y rfl hy (by cases e; rfl)), h.ne⟩
end
end Go.Proofs.YtnlhalnjbkpdnaaGreatDoor

namespace Go.Proofs.YtnlhalnjbkpdnaaGreatDoor
open Go.RowKit
set_option linter.unusedVariables false
set_option linter.unusedSimpArgs false
def OnlyN (K : Act → World → Prop) : Exit → Act → World → Prop
  | .normal, a, w => K a w
  | _, _, _ => False
theorem onlyN_out {K : Act → World → Prop} : ¬ LetsOut (OnlyN K) := fun ⟨_, _, h⟩ => h
theorem wp_onlyN {P : Program} {o : Oper} {a : Act} {w : World} {K K' : Act → World → Prop} {Q : Exit → Act → World → Prop} (h : o.wp P a w K (OnlyN K')) : o.wp P a w K Q := by
  unfold Oper.wp at *
  generalize (execOp a.eval o).run P w = r at *
  cases r with
  | ok n w' =>
    cases n with
    | value v => exact h
    | skip => exact h
    | defer d => exact h
    | row r args => exact h
    | enter f args =>
      refine Calls.mono h fun e w'' he => ?_
      cases e with
      | returned v => exact he
      | panicked c => exact he.elim
      | outgrown => exact (onlyN_out he).elim
    | _ => exact h
  | halt x w' =>
    cases x with
    | panic v => exact h.elim
    | _ => exact h
/-- A law at a list of operations serves at a step. -/
theorem step_of_list {P : Program} {ops : Array Oper} {o : Oper} {a : Act} {w : World} {K : Act → World → Prop} {Q : Exit → Act → World → Prop} {E : Prop} (hgd : o.guard = none) (h : wpList P ops (OnlyN K) [o] a w) :
    if Region.wanted o (yielded ops a.tmps) = true then Oper.wp P o a w K Q else E := by
  have hw : Region.wanted o (yielded ops a.tmps) = true := by simp [Region.wanted, hgd]
  rw [if_pos hw]
  unfold wpList at h
  rw [if_pos hw] at h
  rcases h with h | ⟨_, h⟩
  · exact wp_onlyN (Oper.wp_mono (fun a w hk => hk) h)
  · exact (onlyN_out h).elim
theorem onlyN_mk {K : Act → World → Prop} {a : Act} {w : World} (h : K a w) : OnlyN K .normal a w := h
section
variable {α : Type} [Rep α]
theorem step_appF {P : Program} {w : World} {ops : Array Oper} {o : Oper} {act : Act} {K : Act → World → Prop} {Q : Exit → Act → World → Prop} {EE : Prop} (hgd : o.guard = none) (s x : Operand) (T : TypeId)
    (ho : o.op = .call { callee := .builtin .append, args := #[s, x], argTypes := #[T, T] })
    {E : TypeId} {z : Value} {bytes : Nat} (st : SliceTy P T E z (Rep.size α) bytes) {B : Nat} {w0 : World} {φ0 φ : Phi} (hi : Inv B w0 φ0 φ w)
    (a : Option Addr) (cap : Nat) (xs : List α) (hs : act.eval s = .slice a xs.length cap) (hown : Own B φ w E a cap xs)
    (ad : Addr) (c : Nat) (ys : List α) (news : List Value) (m : Nat) (hx : act.eval x = .slice (some ad) m c) (hm : ys.length = m) (hrep : RepL φ ys news)
    (hnews : ∀ j u, news[j]? = some u → w.cell? (ad.add j) = some u) (hbound : (xs.length + ys.length) * bytes ≤ 140737488355328)
    (h : ∀ a' cap' w', Inv B w0 φ0 φ w' → Own B φ w' E a' cap' (xs ++ ys) → w.grownBy w' (a.map (·.block)) → (∀ x, a' = some x → a.map (·.block) = some x.block ∨ w.heap.size ≤ x.block) → K (act.put o.dst (.slice a' (xs ++ ys).length cap')) w') :
    if Region.wanted o (yielded ops act.tmps) = true then Oper.wp P o act w K Q else EE :=
  step_of_list hgd (wpList_appF hgd s x T ho st hi a cap xs hs hown ad c ys news m hx hm hrep hnews hbound h)
end
end Go.Proofs.YtnlhalnjbkpdnaaGreatDoor

namespace Go.Proofs.YtnlhalnjbkpdnaaGreatDoor
open Go.RowKit Go.ChangeMaps
set_option linter.unusedVariables false
set_option linter.unusedSimpArgs false
section
variable {κ α : Type} [DecidableEq κ]
variable [KeyV κ]
variable {P : Program} {vr : α → Value → Prop} {w w' : World} {b r : Nat} {m : List (κ × α)} {S : List κ}
end
end Go.Proofs.YtnlhalnjbkpdnaaGreatDoor

namespace Go.Proofs.YtnlhalnjbkpdnaaGreatDoor
open Go.RowKit
set_option linter.unusedVariables false
set_option linter.unusedSimpArgs false
def vH (x : Hdr) (v : Value) : Prop := v = .slice x.a x.n x.c
section
variable {κ α : Type} [DecidableEq κ] [Key κ] [Rep α]
/-- Block r is a map from keys to slices of the call's own: f; their headers: hd. No row lies in a block of Rv. -/
structure GrpW (E : TypeId) (B : Nat) (φ : Phi) (w : World) (r : Nat) (Rv : Nat → Prop) (hd : κ → Option Hdr) (f : κ → List α) : Prop where
  map : ∃ o M, w.heap[r]? = some o ∧ MapO vH o M ∧ ∀ k, mget M k = hd k
  none : ∀ k, hd k = .none → f k = []
  row : ∀ k h, hd k = some h → Own B φ w E h.a h.c (f k) ∧ h.n = (f k).length
  nm : ∀ k h x, hd k = some h → h.a = some x → x.block ≠ r ∧ ¬ Rv x.block
  nr : ∀ k k' h h' x y, k ≠ k' → hd k = some h → hd k' = some h' → h.a = some x → h'.a = some y → x.block ≠ y.block
  lo : B ≤ r
  fr : φ r = .none
def updK {β : Type} (f : κ → β) (k : κ) (x : β) : κ → β := fun k' => if k' = k then x else f k'
variable {E : TypeId} {B : Nat} {φ φ' : Phi} {w w' w0 : World} {r : Nat} {Rv Rv' : Nat → Prop} {hd : κ → Option Hdr} {f : κ → List α}
theorem GrpW.lt (h : GrpW E B φ w r Rv hd f) : r < w.heap.size := by obtain ⟨o, M, h1, _⟩ := h.map; exact (Array.getElem?_eq_some_iff.1 h1).1
theorem GrpW.new {φ0 : Phi} (hi : Inv B w0 φ0 φ w) : GrpW E B φ (w.alloc (.map #[] 0)) w.heap.size Rv (fun _ : κ => .none) (fun _ => ([] : List α)) :=
  ⟨⟨_, [], heap_alloc_new w _, MapO.empty, fun _ => rfl⟩, fun _ _ => rfl, fun _ _ h => (by cases h), fun _ _ _ h => (by cases h), fun _ _ _ _ _ _ _ h => (by cases h), hi.size, hi.fz.new_none (Nat.le_refl _)⟩
/-- Where the map's block, and the rows, are as they were. -/
theorem GrpW.kept (h : GrpW E B φ w r Rv hd f) (hl : φ.le φ') (hn : ∀ b, b < w.heap.size → φ b = .none → φ' b = .none) (hr : w'.heap[r]? = w.heap[r]?) (hb : ∀ k h' x, hd k = some h' → h'.a = some x → w'.heap[x.block]? = w.heap[x.block]?) : GrpW E B φ' w' r Rv hd f := by
  obtain ⟨o, M, h1, h2⟩ := h.map
  exact ⟨⟨o, M, hr.trans h1, h2⟩, h.none, fun k h' hk => ⟨(h.row k h' hk).1.kept hl hn (fun x hx => hb k h' x hk hx), (h.row k h' hk).2⟩, h.nm, h.nr, h.lo, hn r h.lt h.fr⟩
theorem GrpW.callB (h : GrpW E B φ w r Rv hd f) (hb : Below w.heap.size w w') : GrpW E B φ w' r Rv hd f :=
  h.kept φ.le_refl (fun _ _ q => q) (hb.block r h.lt) (fun k h' x hk hx => hb.block _ ((h.row k h' hk).1.lt x hx).2)
theorem GrpW.call (h : GrpW E B φ w r Rv hd f) (hi : Inv w.heap.size w φ φ' w') : GrpW E B φ' w' r Rv hd f :=
  h.kept hi.le (fun b hb hn => (hi.new b hb).trans hn) (hi.bel.block r h.lt) (fun k h' x hk hx => hi.bel.block _ ((h.row k h' hk).1.lt x hx).2)
/-- A write to a block that is reserved. -/
theorem GrpW.other (h : GrpW E B φ w r Rv hd f) {g : Option Nat} (hg : w.grownBy w' g) (hr : g ≠ some r) (hv : ∀ b, g = some b → Rv b) : GrpW E B φ w' r Rv hd f :=
  h.kept φ.le_refl (fun _ _ q => q) (hg.block r h.lt (fun e => hr e.symm)) (fun k h' x hk hx => hg.block _ ((h.row k h' hk).1.lt x hx).2 (fun e => (h.nm k h' x hk hx).2 (hv _ e.symm)))
/-- Other blocks reserved. -/
theorem GrpW.rv (h : GrpW E B φ w r Rv hd f) (hv : ∀ b, b < w.heap.size → Rv' b → Rv b) : GrpW E B φ w r Rv' hd f :=
  ⟨h.map, h.none, h.row, fun k h' x hk hx => ⟨(h.nm k h' x hk hx).1, fun q => (h.nm k h' x hk hx).2 (hv _ ((h.row k h' hk).1.lt x hx).2 q)⟩, h.nr, h.lo, h.fr⟩
section
variable {P : Program} {T kt et : TypeId}
/-- What a look-up gives. -/
theorem GrpW.look (h : GrpW E B φ w r Rv hd f) (ht : P.underlying T = some (.map kt et)) (hk : P.underlying kt = some (Key.d κ)) (hz : ∀ w, (zeroValue et).run P w = .ok (.slice .none 0 0) w) (k : κ) :
    ∃ a c, (∀ W, W.heap[r]? = w.heap[r]? → (Instr.lookup T (.map (some r)) (KeyV.v k) false).run P W = .ok (.slice a (f k).length c) W) ∧ Own B φ w E a c (f k) ∧ (hd k = some ⟨a, (f k).length, c⟩ ∨ (hd k = .none ∧ a = .none ∧ c = 0)) := by
  obtain ⟨o, M, h1, h2, h3⟩ := h.map
  cases hh : hd k with
  | none =>
    refine ⟨.none, 0, fun W hW => ?_, by rw [h.none k hh]; exact Own.nil _ _ _ _, .inr ⟨rfl, rfl, rfl⟩⟩
    rcases run_lookup (P := P) (w := W) ht hk (hW.trans h1) h2 k false (hz W) with ⟨x, v, q1, q2, q3⟩ | ⟨q1, q3⟩
    · rw [h3, hh] at q1; cases q1
    · rw [h.none k hh]; exact q3
  | some h' =>
    obtain ⟨g1, g2⟩ := h.row k h' hh
    refine ⟨h'.a, h'.c, fun W hW => ?_, g1, .inl (by rw [← g2])⟩
    rcases run_lookup (P := P) (w := W) ht hk (hW.trans h1) h2 k false (hz W) with ⟨x, v, q1, q2, q3⟩ | ⟨q1, q3⟩
    · rw [h3, hh] at q1; cases q1
      cases q2
      rw [← g2]; exact q3
    · rw [h3, hh] at q1; cases q1
/-- A key's row has grown, and is stored. -/
theorem GrpW.put (h : GrpW E B φ w r Rv hd f) (ht : P.underlying T = some (.map kt et)) (hk : P.underlying kt = some (Key.d κ)) {k : κ} {a : Option Addr} {c : Nat} (hh : hd k = some ⟨a, (f k).length, c⟩ ∨ (hd k = .none ∧ a = .none ∧ c = 0))
    {a' : Option Addr} {c' : Nat} {l : List α} {n : Nat} (hn : l.length = n) (ho : Own B φ w' E a' c' l) (hg : w.grownBy w' (a.map (·.block))) (hf : ∀ x, a' = some x → a.map (·.block) = some x.block ∨ w.heap.size ≤ x.block) (hrv : ∀ b, Rv b → b < w.heap.size) :
    ∃ o, (∀ W, W.heap[r]? = w.heap[r]? → (Instr.mapUpdate T (.map (some r)) (KeyV.v k) (.slice a' n c')).run P W = .ok () (setMap W r o)) ∧ GrpW E B φ (setMap w' r o) r Rv (updK hd k (some ⟨a', n, c'⟩)) (updK f k l) := by
  subst hn
  obtain ⟨o, M, h1, h2, h3⟩ := h.map
  have hlt := h.lt
  have hlt' : r < w'.heap.size := Nat.lt_of_lt_of_le hlt hg.size
  have hrow : ∀ x, a = some x → x.block < w.heap.size ∧ x.block ≠ r ∧ ¬ Rv x.block ∧ ∀ k' h' y, k' ≠ k → hd k' = some h' → h'.a = some y → y.block ≠ x.block := by
    intro x hx
    rcases hh with hh | ⟨_, e, _⟩
    · exact ⟨((h.row k _ hh).1.lt x hx).2, (h.nm k _ x hh hx).1, (h.nm k _ x hh hx).2, fun k' h' y hne hk' hy => h.nr k' k h' _ y x hne hk' hh hy hx⟩
    · rw [e] at hx; cases hx
  have hgr : some r ≠ a.map (·.block) := by
    cases a with
    | none => simp
    | some x => simpa using (hrow x rfl).2.1.symm
  have key := fun (W : World) (hW : W.heap[r]? = w.heap[r]?) => run_mapUpdate (P := P) (w := W) ht hk (hW.trans h1) h2 k (x := (⟨a', l.length, c'⟩ : Hdr)) (v := .slice a' l.length c') rfl
  have hnew : ∀ x, a' = some x → x.block ≠ r ∧ ¬ Rv x.block ∧ ∀ k' h' y, k' ≠ k → hd k' = some h' → h'.a = some y → y.block ≠ x.block := by
    intro x hx
    rcases hf x hx with q | q
    · cases a with
      | none => cases q
      | some z =>
        have e : z.block = x.block := by simpa using q
        have := hrow z rfl
        rw [e] at this
        exact ⟨this.2.1, this.2.2.1, this.2.2.2⟩
    · exact ⟨by omega, fun e => by have := hrv _ e; omega, fun k' h' y hne hk' hy => by have := ((h.row k' h' hk').1.lt y hy).2; omega⟩
  have hset := setMap_grown w' r (putObj (Key.d κ) o (KeyV.v k) (.slice a' l.length c'))
  refine ⟨_, fun W hW => (key W hW).1, ⟨⟨_, _, setMap_same _ hlt', (key w rfl).2, fun k' => ?_⟩, fun k' hk' => ?_, fun k' h' hk' => ?_, fun k' h' x hk' hx => ?_, fun k1 k2 g1 g2 x y hne e1 e2 e3 e4 => ?_, h.lo, h.fr⟩⟩
  · rw [mget_mput]; unfold updK; split
    · rfl
    · exact h3 k'
  · unfold updK at hk' ⊢
    split
    · next e => rw [if_pos e] at hk'; cases hk'
    · next e => rw [if_neg e] at hk'; exact h.none k' hk'
  · unfold updK at hk' ⊢
    split
    · next e =>
      rw [if_pos e] at hk'; cases hk'
      exact ⟨ho.other hset (fun x hx e => (hnew x hx).1 (by cases e; rfl)), rfl⟩
    · next e =>
      rw [if_neg e] at hk'
      obtain ⟨g1, g2⟩ := h.row k' h' hk'
      refine ⟨(g1.other hg (fun x hx e2 => ?_)).other hset (fun x hx e2 => (h.nm k' h' x hk' hx).1 (by cases e2; rfl)), g2⟩
      cases a with
      | none => cases e2
      | some z => exact (hrow z rfl).2.2.2 k' h' x e hk' hx (by simpa using e2)
  · unfold updK at hk'
    split at hk'
    · cases hk'; exact ⟨(hnew x hx).1, (hnew x hx).2.1⟩
    · exact h.nm k' h' x hk' hx
  · unfold updK at e1 e2
    split at e1
    · next q1 =>
      split at e2
      · next q2 => exact absurd (q1.trans q2.symm) hne
      · next q2 => cases e1; exact fun e => (hnew x e3).2.2 k2 g2 y q2 e2 e4 e.symm
    · next q1 =>
      split at e2
      · next q2 => cases e2; exact (hnew y e4).2.2 k1 g1 x q1 e1 e3
      · exact h.nr k1 k2 g1 g2 x y hne e1 e2 e3 e4
end
end
end Go.Proofs.YtnlhalnjbkpdnaaGreatDoor

namespace Go.Proofs.YtnlhalnjbkpdnaaGreatDoor
open Go.RowKit
set_option linter.unusedVariables false
set_option linter.unusedSimpArgs false
end Go.Proofs.YtnlhalnjbkpdnaaGreatDoor

namespace Go.Proofs.YtnlhalnjbkpdnaaGreatDoor
open Go.RowKit
set_option linter.unusedVariables false
set_option linter.unusedSimpArgs false
theorem getD_elemE (l : List ByteArray) (k : Nat) (h : k < l.length) : l.getD k ByteArray.empty = l[k] := getD_elem0 _ _ _ h
theorem SlV.strsD {φ : Phi} {a : Option Addr} {cap : Nat} {xs : List ByteArray} (h : SlV φ a cap xs) {k n : Nat} (hn : Hid (xs.length = n)) (hk : k < n) :
    ∃ b off, a = some ⟨b, off, none⟩ ∧ ∀ k, k < n → ∀ w, Fz φ w → b < w.heap.size ∧ w.cell? ⟨b, off + k, none⟩ = some (.string (xs.getD k ByteArray.empty)) := by
  obtain ⟨b, off, ha, hc⟩ := h.cellsD ByteArray.empty hn hk
  refine ⟨b, off, ha, fun k hk w hw => ?_⟩
  obtain ⟨cs, h1, hj⟩ := hc k hk
  cases h1
  have j0 := hj 0 (by simp)
  simp [Rep.size] at j0
  exact ⟨hw.lt j0, hw.cell j0⟩
def IxS (xs : List ByteArray) (x : ByteArray) (i : Int) : Prop := (i = -1 ∧ x ∉ xs) ∨ (0 ≤ i ∧ x ∈ xs)
def IxSPost (xs : List ByteArray) (x : ByteArray) (w : World) (e : Ending) (w' : World) : Prop := ∃ i, IxS xs x i ∧ -1 ≤ i ∧ e = .returned (.int .i64 i) ∧ w = w'
theorem IndexS_any (n : Nat) (a : Option Addr) (cap : Nat) (xs : List ByteArray) (x : ByteArray) (w : World) (φ : Phi) (hφ : Fz φ w) (s : SlV φ a cap xs) (hn : Hid (xs.length = n)) (hm : n ≤ 9223372036854775807) :
    Calls Tryz.prog 209 #[.slice a n cap, .string x] w (IxSPost xs x w) := by
  go_enter Tryz.func209, Tryz.ntmps209
  go_wp2
  go_loop [8] (fun i => ∃ k : Nat, k ≤ n ∧ i = .int .i64 k ∧ Hid (∀ i, i < k → xs.getD i ByteArray.empty ≠ x)) (fun i => n - (intOf i).toNat)
  case atStart => exact ⟨0, Nat.zero_le _, rfl, Lib.hid (fun i hi => by omega)⟩
  case round =>
    obtain ⟨k, hk, rfl, hok⟩ := hrel
    by_cases hlt : k < n
    · obtain ⟨b, off, rfl, f⟩ := s.strsD hn hlt
      obtain ⟨hb, c1⟩ := f k hlt w hφ
      have hg : Hid (xs.getD k ByteArray.empty ∈ xs) := Lib.hid (by rw [getD_elemE _ _ (by rw [hn.out]; exact hlt)]; exact List.getElem_mem _)
      have hnx : Hid (xs.getD k ByteArray.empty ≠ x → ∀ i, i < k + 1 → xs.getD i ByteArray.empty ≠ x) := Lib.hid (fun h i hi => by
        by_cases e : i = k
        · subst e; exact h
        · exact hok.out i (by omega))
      clear f
      generalize xs.getD k ByteArray.empty = y at *
      by_cases he : x = y
      · have hb1 := str_eq_t he
        have HE := Lib.hid he
        clear he
        go_wp2
        go_ret
        exact ⟨k, .inr ⟨by omega, by rw [HE.out]; exact hg.out⟩, by omega, rfl, rfl⟩
      · have hb1 := str_eq_f he
        have HE := Lib.hid he
        clear he
        go_wp2
        go_round
        case rel => exact ⟨k + 1, by omega, by go_num, Lib.hid (hnx.out (fun h => HE.out h.symm))⟩
        case measure => (simp [intOf] <;> omega)
    · obtain rfl : k = n := by omega
      go_wp2
      go_ret
      refine ⟨-1, .inl ⟨rfl, fun hm => ?_⟩, by omega, rfl, rfl⟩
      obtain ⟨i, hi, he⟩ := List.getElem_of_mem hm
      exact hok.out i (by rw [← hn.out]; exact hi) (by rw [getD_elemE _ _ hi]; exact he)
theorem ContainsS_b (n : Nat) (a : Option Addr) (cap : Nat) (xs : List ByteArray) (x : ByteArray) (w : World) (φ : Phi) (hφ : Fz φ w) (s : SlV φ a cap xs) (hn : Hid (xs.length = n)) (hm : n ≤ 9223372036854775807) {b : Bool} (hb : Hid (decide (x ∈ xs) = b)) :
    Calls Tryz.prog 151 #[.slice a n cap, .string x] w fun e w' => e = .returned (.bool b) ∧ w = w' := by
  go_enter Tryz.func151, Tryz.ntmps151
  go_wp2_with fail
  refine (IndexS_any n a cap xs x w φ hφ s hn hm).mono ?_
  rintro e w' ⟨i, hi, hi1, rfl, rfl⟩
  have HI := Lib.hid hi
  clear hi
  by_cases h : 0 ≤ i
  · go_wp2
    go_ret
    refine ⟨ret_bool ?_, rfl⟩
    rw [← hb.out, Bool.eq_iff_iff]
    rcases HI.out with h1 | h1
    · omega
    · simp [h1.2]
  · go_wp2
    go_ret
    refine ⟨ret_bool ?_, rfl⟩
    rw [← hb.out, Bool.eq_iff_iff]
    rcases HI.out with h1 | h1
    · simp [h1.2]; omega
    · omega
end Go.Proofs.YtnlhalnjbkpdnaaGreatDoor

namespace Go.Proofs.YtnlhalnjbkpdnaaGreatDoor
open Go.RowKit
set_option linter.unusedVariables false
set_option linter.unusedSimpArgs false

def lowB (n : Int) : Bool := decide (97 ≤ n) && decide (n ≤ 122)
def wrdB (n : Int) : Bool := lowB n || (decide (48 ≤ n) && decide (n ≤ 57)) || decide (n = 95)
def byt (s : ByteArray) (k : Nat) : Int := if h : k < s.size then (s[k].toNat : Int) else 0
theorem byt_eq (s : ByteArray) (k : Nat) (h : k < s.size) : byt s k = (s[k].toNat : Int) := by rw [byt, dif_pos h]
theorem byt_bd (s : ByteArray) (k : Nat) : 0 ≤ byt s k ∧ byt s k < 256 := by
  unfold byt
  split
  · have := UInt8.toNat_lt (s[k]'(by assumption)); omega
  · omega
theorem isEmpty_iff (s : ByteArray) : s.toList.isEmpty = decide (s.size = 0) := by
  rw [ByteArray.toList_eq]
  have h : s.data.toList.length = s.size := rfl
  rw [← h]
  cases s.data.toList <;> simp
/-- The words that are no names. -/
def resv (s : ByteArray) : Bool := (s.toList == [97, 110, 100]) || (s.toList == [111, 114]) || (s.toList == [110, 111, 116]) || (s.toList == [105, 110]) || (s.toList == [104, 97, 115]) || (s.toList == [109, 111, 100]) || (s.toList == [116, 114, 117, 101]) || (s.toList == [102, 97, 108, 115, 101])
/-- The form of a name. -/
def nameP (s : ByteArray) : Prop := 0 < s.size ∧ s.size ≤ 16 ∧ lowB (byt s 0) = true ∧ resv s = false ∧ ∀ k, k < s.size → wrdB (byt s k) = true
noncomputable def nameB (s : ByteArray) : Bool := @decide (nameP s) (Classical.propDecidable _)
theorem nameB_true {s : ByteArray} (h : nameP s) : nameB s = true := by unfold nameB; exact @decide_eq_true _ (Classical.propDecidable _) h
theorem nameB_false {s : ByteArray} (h : ¬ nameP s) : nameB s = false := by unfold nameB; exact @decide_eq_false _ (Classical.propDecidable _) h
theorem isLower_any (n : Int) (w : World) (h0 : 0 ≤ n) (h1 : n < 256) {b : Bool} (h : lowB n = b) :
    Calls Tryz.prog 198 #[.int .u8 n] w fun e w' => e = .returned (.bool b) ∧ w = w' := by
  subst h
  go_enter Tryz.func198, Tryz.ntmps198
  by_cases h : 97 ≤ n
  · go_wp2
    go_ret
    exact ⟨ret_bool (by unfold lowB; rw [Bool.eq_iff_iff]; simp; omega), rfl⟩
  · go_wp2
    go_ret
    exact ⟨ret_bool (by unfold lowB; rw [Bool.eq_iff_iff]; simp; omega), rfl⟩
theorem isWordByte_any (n : Int) (w : World) (h0 : 0 ≤ n) (h1 : n < 256) {b : Bool} (h : wrdB n = b) :
    Calls Tryz.prog 200 #[.int .u8 n] w fun e w' => e = .returned (.bool b) ∧ w = w' := by
  subst h
  go_enter Tryz.func200, Tryz.ntmps200
  go_wp2
  all_goals
    go_ret
    exact ⟨ret_bool (by unfold wrdB lowB; rw [Bool.eq_iff_iff]; simp; omega), rfl⟩
theorem isReserved_any (s : ByteArray) (w : World) {b : Bool} (h : resv s = b) :
    Calls Tryz.prog 199 #[.string s] w fun e w' => e = .returned (.bool b) ∧ w = w' := by
  subst h
  go_enter Tryz.func199, Tryz.ntmps199
  by_cases h0 : (s.toList == [97, 110, 100]) = true
  · go_wp2
    go_ret
    exact ⟨ret_bool (by simp only [resv, h0]; rfl), rfl⟩
  replace h0 := Bool.not_eq_true _ ▸ h0
  by_cases h1 : (s.toList == [111, 114]) = true
  · go_wp2
    go_ret
    exact ⟨ret_bool (by simp only [resv, h0, h1]; rfl), rfl⟩
  replace h1 := Bool.not_eq_true _ ▸ h1
  by_cases h2 : (s.toList == [110, 111, 116]) = true
  · go_wp2
    go_ret
    exact ⟨ret_bool (by simp only [resv, h0, h1, h2]; rfl), rfl⟩
  replace h2 := Bool.not_eq_true _ ▸ h2
  by_cases h3 : (s.toList == [105, 110]) = true
  · go_wp2
    go_ret
    exact ⟨ret_bool (by simp only [resv, h0, h1, h2, h3]; rfl), rfl⟩
  replace h3 := Bool.not_eq_true _ ▸ h3
  by_cases h4 : (s.toList == [104, 97, 115]) = true
  · go_wp2
    go_ret
    exact ⟨ret_bool (by simp only [resv, h0, h1, h2, h3, h4]; rfl), rfl⟩
  replace h4 := Bool.not_eq_true _ ▸ h4
  by_cases h5 : (s.toList == [109, 111, 100]) = true
  · go_wp2
    go_ret
    exact ⟨ret_bool (by simp only [resv, h0, h1, h2, h3, h4, h5]; rfl), rfl⟩
  replace h5 := Bool.not_eq_true _ ▸ h5
  by_cases h6 : (s.toList == [116, 114, 117, 101]) = true
  · go_wp2
    go_ret
    exact ⟨ret_bool (by simp only [resv, h0, h1, h2, h3, h4, h5, h6]; rfl), rfl⟩
  replace h6 := Bool.not_eq_true _ ▸ h6
  by_cases h7 : (s.toList == [102, 97, 108, 115, 101]) = true
  · go_wp2
    go_ret
    exact ⟨ret_bool (by simp only [resv, h0, h1, h2, h3, h4, h5, h6, h7]; rfl), rfl⟩
  replace h7 := Bool.not_eq_true _ ▸ h7
  go_wp2
  go_ret
  exact ⟨ret_bool (by simp only [resv, h0, h1, h2, h3, h4, h5, h6, h7]; rfl), rfl⟩
set_option maxRecDepth 100000 in
set_option maxHeartbeats 1000000 in
theorem IsName_any (s : ByteArray) (w : World) (hs : s.size ≤ reachBytes) {b : Bool} (h : nameB s = b) :
    Calls Tryz.prog 143 #[.string s] w fun e w' => e = .returned (.bool b) ∧ w = w' := by
  subst h
  by_cases hz : s.size = 0
  · have he : s.toList.isEmpty = true := by rw [isEmpty_iff]; simp [hz]
    have he2 : s.toList = [] := List.isEmpty_iff.1 he
    have HZ := Lib.hid hz
    clear hz
    go_enter Tryz.func143, Tryz.ntmps143
    go_wp2
    go_ret
    exact ⟨ret_bool (nameB_false (fun h => by have := h.1; have := HZ.out; omega)).symm, rfl⟩
  have he : s.toList.isEmpty = false := by rw [isEmpty_iff]; simp [hz]
  have hp : 0 < s.size := by omega
  by_cases h16 : 16 < s.size
  · unfold reachBytes at hs
    go_enter Tryz.func143, Tryz.ntmps143
    go_wp2
    go_ret
    exact ⟨ret_bool (nameB_false (fun h => by have := h.2.1; omega)).symm, rfl⟩
  have hc := byt_bd s 0
  have b0 := Lib.hid (byt_eq s 0 hp)
  have hc0 : ((s[0]'hp).toNat : Int) < 256 := by rw [← b0.out]; omega
  have hc1 : 0 ≤ ((s[0]'hp).toNat : Int) := by omega
  obtain ⟨l0, hl0⟩ : ∃ b, Hid (lowB ((s[0]'hp).toNat : Int) = b) := ⟨_, Lib.hid rfl⟩
  obtain ⟨r0, hr0⟩ : ∃ b, Hid (resv s = b) := ⟨_, Lib.hid rfl⟩
  clear hs hz
  go_enter Tryz.func143, Tryz.ntmps143
  cases l0
  · go_wp2_with (go_at_call 198; refine (isLower_any _ _ hc1 hc0 hl0.out).mono ?_; rintro e w' ⟨rfl, rfl⟩)
    go_ret
    exact ⟨ret_bool (nameB_false (fun h => by have := h.2.2.1; rw [b0.out, hl0.out] at this; cases this)).symm, rfl⟩
  cases r0
  case true =>
    go_wp2_with (first | (go_at_call 198; refine (isLower_any _ _ hc1 hc0 hl0.out).mono ?_; rintro e w' ⟨rfl, rfl⟩) | (go_at_call 199; refine (isReserved_any _ _ hr0.out).mono ?_; rintro e w' ⟨rfl, rfl⟩))
    go_ret
    exact ⟨ret_bool (nameB_false (fun h => by have := h.2.2.2.1; rw [hr0.out] at this; cases this)).symm, rfl⟩
  go_wp2_with (first | (go_at_call 198; refine (isLower_any _ _ hc1 hc0 hl0.out).mono ?_; rintro e w' ⟨rfl, rfl⟩) | (go_at_call 199; refine (isReserved_any _ _ hr0.out).mono ?_; rintro e w' ⟨rfl, rfl⟩))
  go_loop [3] (fun i => ∃ k : Nat, k ≤ s.size ∧ i = .int .i64 k ∧ Hid (∀ i, i < k → wrdB (byt s i) = true)) (fun i => s.size - (intOf i).toNat)
  case atStart => exact ⟨0, Nat.zero_le _, rfl, Lib.hid (fun i hi => by omega)⟩
  case round =>
    obtain ⟨k, hk, rfl, hok⟩ := hrel
    by_cases hlt : k < s.size
    · have hb := byt_bd s k
      have hek := Lib.hid (byt_eq s k hlt)
      have hd0 : ((s[k]'hlt).toNat : Int) < 256 := by rw [← hek.out]; omega
      have hd1 : 0 ≤ ((s[k]'hlt).toNat : Int) := by omega
      obtain ⟨o, ho⟩ : ∃ o, Hid (wrdB ((s[k]'hlt).toNat : Int) = o) := ⟨_, Lib.hid rfl⟩
      cases o
      · go_wp2_with (go_at_call 200; refine (isWordByte_any _ _ hd1 hd0 ho.out).mono ?_; rintro e w' ⟨rfl, rfl⟩)
        go_ret
        exact ⟨ret_bool (nameB_false (fun h => by have := h.2.2.2.2 k hlt; rw [hek.out, ho.out] at this; cases this)).symm, rfl⟩
      · go_wp2_with (go_at_call 200; refine (isWordByte_any _ _ hd1 hd0 ho.out).mono ?_; rintro e w' ⟨rfl, rfl⟩)
        go_round
        case rel => exact ⟨k + 1, by omega, by go_num, Lib.hid (fun i hi => by
          by_cases e : i = k
          · subst e; rw [hek.out]; exact ho.out
          · exact hok.out i (by omega))⟩
        case measure => (simp [intOf] <;> omega)
    · obtain rfl : k = s.size := by omega
      go_wp2
      go_ret
      exact ⟨ret_bool (nameB_true ⟨hp, by omega, by rw [b0.out]; exact hl0.out, hr0.out, hok.out⟩).symm, rfl⟩
end Go.Proofs.YtnlhalnjbkpdnaaGreatDoor
