/- Slices of slices in the making: a row of headers, each complete slice frozen, the last one the call's own. Conditions: none. -/
import Derived.Test.YtnlhalnjbkpdnaaDoorLit
namespace Go.Proofs.YtnlhalnjbkpdnaaDoor
open Go.RowKit
set_option linter.unusedVariables false
set_option linter.unusedSimpArgs false
/-- A slice's header. -/
structure Hdr where
  a : Option Addr
  n : Nat
  c : Nat
instance : Rep Hdr where
  size := 1
  rep := fun _ x cs => cs = [.slice x.a x.n x.c]
  len := by intro _ _ _ h; subst h; rfl
  mono := fun _ h => h
  one := by intro _ _ _ h u hu; subst h; simp at hu; subst hu; rfl
abbrev hdr0 : Hdr := ⟨none, 0, 0⟩
section
variable {α : Type} [Rep α]
def HdrL (φ : Phi) : List Hdr → List (List α) → Prop
  | [], [] => True
  | h :: hs, g :: gs => (SlV φ h.a h.c g ∧ h.n = g.length) ∧ HdrL φ hs gs
  | _, _ => False
theorem HdrL.mono {φ φ' : Phi} (hl : φ.le φ') : ∀ {hs : List Hdr} {gs : List (List α)}, HdrL φ hs gs → HdrL φ' hs gs
  | [], [], h => h
  | h :: hs, g :: gs, k => ⟨⟨k.1.1.mono hl, k.1.2⟩, HdrL.mono hl k.2⟩
  | [], _ :: _, h => h.elim
  | _ :: _, [], h => h.elim
theorem HdrL.snoc {φ : Phi} {x : Hdr} {y : List α} (hx : SlV φ x.a x.c y ∧ x.n = y.length) : ∀ {hs : List Hdr} {gs : List (List α)}, HdrL φ hs gs → HdrL φ (hs ++ [x]) (gs ++ [y])
  | [], [], h => ⟨hx, trivial⟩
  | h :: hs, g :: gs, k => ⟨k.1, HdrL.snoc hx k.2⟩
  | [], _ :: _, h => h.elim
  | _ :: _, [], h => h.elim
theorem HdrL.len {φ : Phi} : ∀ {hs : List Hdr} {gs : List (List α)}, HdrL φ hs gs → hs.length = gs.length
  | [], [], h => rfl
  | h :: hs, g :: gs, k => by simp [HdrL.len k.2]
  | [], _ :: _, h => h.elim
  | _ :: _, [], h => h.elim
theorem HdrL.get {φ : Phi} : ∀ {hs : List Hdr} {gs : List (List α)}, HdrL φ hs gs → ∀ k (h1 : k < hs.length) (h2 : k < gs.length), SlV φ hs[k].a hs[k].c gs[k] ∧ hs[k].n = gs[k].length
  | [], [], h, k, h1, _ => by simp at h1
  | h :: hs, g :: gs, k, 0, _, _ => k.1
  | h :: hs, g :: gs, k, j + 1, h1, h2 => HdrL.get k.2 j (by simpa using h1) (by simpa using h2)
  | [], _ :: _, h, _, _, _ => h.elim
  | _ :: _, [], h, _, _, _ => h.elim
/-- Headers that are known read as a list of lists. -/
theorem SlV.ofHdr {φ : Phi} {a : Option Addr} {cap : Nat} {hs : List Hdr} {gs : List (List α)} (s : SlV φ a cap hs) (h : HdrL φ hs gs) : SlV φ a cap gs := by
  have hl := h.len
  refine ⟨by rw [← hl]; exact s.capn, s.capm, s.nil, fun hne => ?_⟩
  obtain ⟨b, off, ha, hc⟩ := s.at_ (by intro e; rw [e] at hl; exact hne (List.eq_nil_of_length_eq_zero hl.symm))
  refine ⟨b, off, ha, fun k hk => ?_⟩
  obtain ⟨cs, hr, hj⟩ := hc k (by rw [hl]; exact hk)
  cases hr
  obtain ⟨q1, q2⟩ := h.get k (by rw [hl]; exact hk) hk
  refine ⟨_, ⟨_, _, rfl, q1⟩, fun j hjj => ?_⟩
  have hj0 : j = 0 := by simp at hjj; omega
  subst hj0
  have := hj 0 (by simp)
  rw [q2] at this
  exact this
end
theorem Own.hdrD {B : Nat} {φ : Phi} {w : World} {E : TypeId} {a : Option Addr} {cap : Nat} {xs : List Hdr} (h : Own B φ w E a cap xs) {k n : Nat} (hn : Hid (xs.length = n)) (hk : k < n) :
    ∃ g, a = some ⟨g, 0, none⟩ ∧ B ≤ g ∧ g < w.heap.size ∧ φ g = none ∧ w.cell? ⟨g, k, none⟩ = some (.slice (xs.getD k hdr0).a (xs.getD k hdr0).n (xs.getD k hdr0).c) ∧ w.frozen? ⟨g, k, none⟩ = false ∧
      ∀ (y : Hdr) w0 φ0, Inv B w0 φ0 φ w → Own B φ (w.setCell ⟨g, k, none⟩ (.slice y.a y.n y.c)) E a cap (xs.set k y) ∧ Inv B w0 φ0 φ (w.setCell ⟨g, k, none⟩ (.slice y.a y.n y.c)) := by
  have hk' : k < xs.length := by rw [hn.out]; exact hk
  obtain ⟨g, rfl, h1, h2, h3, h4, hc⟩ := h.elem hk'
  obtain ⟨cs, e1, hj⟩ := hc k hk'
  cases e1
  have j0 := hj 0 (by simp)
  simp [Rep.size] at j0
  rw [getD_elem0 _ _ _ hk']
  refine ⟨g, rfl, h1, h2, h3, j0, h4 k, fun y w0 φ0 hi => ?_⟩
  have := h.setCell hi hk' (y := y) (j := 0) (u := .slice y.a y.n y.c) hj rfl (by simp) rfl
  simpa [Rep.size] using this
section
variable {α β : Type} [Rep α] [Rep β] {w0 wr w' : World} {φ : Phi} {E F : TypeId} {a1 a1' a2 a2' : Option Addr} {c1 c1' c2 c2' : Nat} {xs xs' : List α} {ys ys' : List β}
/-- The second one frozen. -/
theorem Ow2.rel2 (h : Ow2 w0 φ E F a1 c1 xs a2 c2 ys wr) : ∃ φ', φ.le φ' ∧ (∀ b, b < w0.heap.size → φ' b = φ b) ∧ Inv w0.heap.size w0 φ' φ' wr ∧ Own w0.heap.size φ' wr E a1 c1 xs ∧ SlV φ' a2 c2 ys := by
  obtain ⟨φ1, l1, i1, s1, f1⟩ := h.o2.release h.inv
  refine ⟨φ1, l1, i1.new, ⟨i1.bel, i1.base, i1.fz, φ1.le_refl, fun _ _ => rfl⟩, ?_, s1⟩
  obtain ⟨⟨cells, hr, hl⟩, hfr⟩ := h.o1
  refine ⟨⟨cells, hr, hl.mono l1⟩, fun y hy => ?_⟩
  rw [f1 _ (fun e => ?_)]
  · exact hfr y hy
  · cases a2 with
    | none => cases e
    | some z => exact h.ne y z hy rfl (by simpa using e)
/-- A store into the first one's row. -/
theorem Ow2.put1 {g : Nat} (h : Ow2 w0 φ E F (some ⟨g, 0, none⟩) c1 xs a2 c2 ys wr) {off : Nat} {u : Value} (ho : Own w0.heap.size φ (wr.setCell ⟨g, off, none⟩ u) E (some ⟨g, 0, none⟩) c1 xs') (hi : Inv w0.heap.size w0 φ φ (wr.setCell ⟨g, off, none⟩ u)) : Ow2 w0 φ E F (some ⟨g, 0, none⟩) c1 xs' a2 c2 ys (wr.setCell ⟨g, off, none⟩ u) := by
  have hgr : wr.grownBy (wr.setCell ⟨g, off, none⟩ u) (some g) := ⟨rfl, rfl, rfl, by simp [World.setCell], fun k _ hk => Below.heap_setCell _ _ _ _ (by intro e; exact hk (by rw [e]))⟩
  exact ⟨hi, ho, h.o2.other hgr (fun y hy e => h.ne _ y rfl hy (by cases e; rfl)), h.ne⟩
end
end Go.Proofs.YtnlhalnjbkpdnaaDoor
