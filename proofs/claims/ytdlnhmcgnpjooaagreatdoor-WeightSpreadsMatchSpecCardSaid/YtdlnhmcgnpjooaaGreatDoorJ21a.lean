/- A result's cell and boxes of the call's own. Conditions: none. -/
import Derived.Test.YtdlnhmcgnpjooaaGreatDoorJ20
namespace Go.Proofs.YtdlnhmcgnpjooaaGreatDoor
open Go.RowKit
set_option linter.unusedVariables false
/-- A result's cell, and boxes in the order of a list. -/
structure BxS (T : TypeId) (z : Array Value) (E : TypeId) (w0 : World) (φ0 φ : Phi) (b : Nat) (m : List (Nat × Array Value)) (W : World) : Prop where
  r : RsSt w0 φ0 φ b z T W
  a : ∀ (i : Nat) (x : Nat) (cs : Array Value), m[i]? = some (x, cs) → RsSt w0 φ0 φ x cs E W ∧ x ≠ b
  d : ∀ (i j : Nat) (x y : Nat) (cs ds : Array Value), m[i]? = some (x, cs) → m[j]? = some (y, ds) → i ≠ j → x ≠ y
section
variable {T E : TypeId} {z : Array Value} {w0 W w' : World} {φ0 φ φ' : Phi} {b x : Nat} {cs : Array Value} {m : List (Nat × Array Value)}
theorem BxS.nil (h : RsSt w0 φ0 φ b z T W) : BxS T z E w0 φ0 φ b [] W := ⟨h, fun i x cs e => by simp at e, fun i j x y cs ds e => by simp at e⟩
theorem BxS.call (h : BxS T z E w0 φ0 φ b m W) (hi : Inv W.heap.size W φ φ' w') : BxS T z E w0 φ0 φ' b m w' := ⟨h.r.call hi, fun i x cs e => ⟨(h.a i x cs e).1.call hi, (h.a i x cs e).2⟩, h.d⟩
theorem BxS.callB (h : BxS T z E w0 φ0 φ b m W) (hb : Below W.heap.size W w') : BxS T z E w0 φ0 φ b m w' := ⟨h.r.callB hb, fun i x cs e => ⟨(h.a i x cs e).1.callB hb, (h.a i x cs e).2⟩, h.d⟩
theorem BxS.drew (h : BxS T z E w0 φ0 φ b m W) : BxS T z E w0 φ0 φ b m W.drew := h.callB (bdrewN (Below.refl _ W) 1)
theorem BxS.alloc (h : BxS T z E w0 φ0 φ b m W) (cs : Array Value) : BxS T z E w0 φ0 φ b ((W.heap.size, cs) :: m) (W.alloc (.cells cs E)) := by
  have hB := (Below.refl W.heap.size W).alloc (Nat.le_refl _) (.cells cs E)
  have hlt : ∀ i x ds, m[i]? = some (x, ds) → x < W.heap.size := fun i x ds e => (h.a i x ds e).1.k.lt
  refine ⟨h.r.callB hB, fun i x ds e => ?_, fun i j x y ds es e1 e2 hne => ?_⟩
  · cases i with
    | zero => simp at e; obtain ⟨rfl, rfl⟩ := e; exact ⟨RsSt.start h.r.inv _ _, by have := h.r.k.lt; omega⟩
    | succ i => simp at e; exact ⟨(h.a i x ds e).1.callB hB, (h.a i x ds e).2⟩
  · cases i with
    | zero =>
      cases j with
      | zero => exact absurd rfl hne
      | succ j => simp at e1 e2; have := hlt j y es e2; omega
    | succ i =>
      cases j with
      | zero => simp at e1 e2; have := hlt i x ds e1; omega
      | succ j => simp at e1 e2; exact h.d i j x y ds es e1 e2 (by omega)
theorem BxS.set (h : BxS T z E w0 φ0 φ b m W) {i : Nat} (hi : m[i]? = some (x, cs)) (j : Nat) (u : Value) : BxS T z E w0 φ0 φ b (m.set i (x, cs.setIfInBounds j u)) (W.setCell ⟨x, j, none⟩ u) := by
  obtain ⟨k, hk⟩ := h.a i x cs hi
  have hl : i < m.length := (List.getElem?_eq_some_iff.1 hi).1
  have hg : ∀ (q y : Nat) (ds : Array Value), (m.set i (x, cs.setIfInBounds j u))[q]? = some (y, ds) → (q = i ∧ y = x ∧ ds = cs.setIfInBounds j u) ∨ (q ≠ i ∧ m[q]? = some (y, ds)) := by
    intro q y ds e
    by_cases hq : q = i
    · subst hq; rw [List.getElem?_set_self hl] at e; simp at e; exact .inl ⟨rfl, e.1.symm, e.2.symm⟩
    · rw [List.getElem?_set_ne (Ne.symm hq)] at e; exact .inr ⟨hq, e⟩
  refine ⟨h.r.oth k hk j u, fun q y ds e => ?_, fun p q y y' ds es e1 e2 hne => ?_⟩
  · rcases hg q y ds e with ⟨rfl, rfl, rfl⟩ | ⟨hq, e⟩
    · exact ⟨k.set j u, hk⟩
    · exact ⟨(h.a q y ds e).1.oth k (h.d i q x y cs ds hi e (Ne.symm hq)) j u, (h.a q y ds e).2⟩
  · rcases hg p y ds e1 with ⟨rfl, rfl, rfl⟩ | ⟨hp, f1⟩
    · rcases hg q y' es e2 with ⟨rfl, rfl, rfl⟩ | ⟨hq, f2⟩
      · exact absurd rfl hne
      · exact h.d p q _ y' _ es hi f2 hne
    · rcases hg q y' es e2 with ⟨rfl, rfl, rfl⟩ | ⟨hq, f2⟩
      · exact h.d p q y _ ds _ f1 hi hne
      · exact h.d p q y y' ds es f1 f2 hne
theorem BxS.set3 (h : BxS T z E w0 φ0 φ b m W) (i : Nat) {c0 c1 c2 : Value} (hi : m[i]? = some (x, #[c0, c1, c2])) (u0 u1 u2 : Value) : BxS T z E w0 φ0 φ b (m.set i (x, #[u0, u1, u2])) (((W.setCell ⟨x, 0, none⟩ u0).setCell ⟨x, 1, none⟩ u1).setCell ⟨x, 2, none⟩ u2) := by
  have hl : i < m.length := (List.getElem?_eq_some_iff.1 hi).1
  have h1 := h.set hi 0 u0
  have h2 := h1.set (i := i) (List.getElem?_set_self hl) 1 u1
  rw [List.set_set] at h2
  have h3 := h2.set (i := i) (List.getElem?_set_self hl) 2 u2
  rw [List.set_set] at h3
  exact h3
theorem BxS.get (h : BxS T z E w0 φ0 φ b m W) (i : Nat) {c0 c1 c2 : Value} (hi : m[i]? = some (x, #[c0, c1, c2])) :
    W.cell? ⟨x, 0, none⟩ = some c0 ∧ W.cell? ⟨x, 1, none⟩ = some c1 ∧ W.cell? ⟨x, 2, none⟩ = some c2 ∧ W.frozen? ⟨x, 0, none⟩ = false ∧ W.frozen? ⟨x, 1, none⟩ = false ∧ W.frozen? ⟨x, 2, none⟩ = false :=
  have k := (h.a i x _ hi).1.k
  ⟨k.cell 0, k.cell 1, k.cell 2, k.frz 0, k.frz 1, k.frz 2⟩
theorem BxS.frz1 {p : Nat × Array Value} (h : BxS T z E w0 φ0 φ b (p :: m) W) : ∃ φ', φ.le φ' ∧ BxS T z E w0 φ0 φ' b m W ∧ φ' p.1 = some (.cells p.2 E) := by
  obtain ⟨k, hk⟩ := h.a 0 p.1 p.2 rfl
  obtain ⟨φ1, l1, i1, e1, f1⟩ := h.r.inv.frzAt k.k k.l
  refine ⟨φ1, l1, ⟨⟨i1, h.r.k, by rw [f1 b (Ne.symm hk)]; exact h.r.f, h.r.l⟩, fun i x cs e => ?_, fun i j x y cs ds e1 e2 hne => h.d (i + 1) (j + 1) x y cs ds e1 e2 (by omega)⟩, e1⟩
  obtain ⟨k2, hk2⟩ := h.a (i + 1) x cs e
  have hne := h.d 0 (i + 1) p.1 x p.2 cs rfl e (by omega)
  exact ⟨⟨i1, k2.k, by rw [f1 x (Ne.symm hne)]; exact k2.f, k2.l⟩, hk2⟩
/-- The boxes in another order. -/
theorem BxS.perm3 {p0 p1 p2 : Nat × Array Value} (h : BxS T z E w0 φ0 φ b m W) (i j k : Nat) (hij : i ≠ j) (hik : i ≠ k) (hjk : j ≠ k) (h0 : m[i]? = some p0) (h1 : m[j]? = some p1) (h2 : m[k]? = some p2) : BxS T z E w0 φ0 φ b [p0, p1, p2] W := by
  have hg : ∀ (q y : Nat) (ds : Array Value), [p0, p1, p2][q]? = some (y, ds) → ∃ q', m[q']? = some (y, ds) ∧ ((q = 0 ∧ q' = i) ∨ (q = 1 ∧ q' = j) ∨ (q = 2 ∧ q' = k)) := by
    intro q y ds e
    match q, e with
    | 0, e => simp at e; subst e; exact ⟨i, h0, .inl ⟨rfl, rfl⟩⟩
    | 1, e => simp at e; subst e; exact ⟨j, h1, .inr (.inl ⟨rfl, rfl⟩)⟩
    | 2, e => simp at e; subst e; exact ⟨k, h2, .inr (.inr ⟨rfl, rfl⟩)⟩
    | q + 3, e => simp at e
  refine ⟨h.r, fun q y ds e => ?_, fun p q y y' ds es e1 e2 hne => ?_⟩
  · obtain ⟨q', e', _⟩ := hg q y ds e
    exact h.a q' y ds e'
  · obtain ⟨p', f1, c1⟩ := hg p y ds e1
    obtain ⟨q', f2, c2⟩ := hg q y' es e2
    exact h.d p' q' y y' ds es f1 f2 (by omega)
/-- The boxes in another order. -/
theorem BxS.pick3 {x y q : Nat} {cx cy cq : Array Value} (h : BxS T z E w0 φ0 φ b m W) (h0 : (x, cx) ∈ m) (h1 : (y, cy) ∈ m) (h2 : (q, cq) ∈ m) (n1 : x ≠ y) (n2 : x ≠ q) (n3 : y ≠ q) : BxS T z E w0 φ0 φ b [(x, cx), (y, cy), (q, cq)] W := by
  obtain ⟨i, hi⟩ := List.mem_iff_getElem?.1 h0
  obtain ⟨j, hj⟩ := List.mem_iff_getElem?.1 h1
  obtain ⟨k, hk⟩ := List.mem_iff_getElem?.1 h2
  refine h.perm3 i j k ?_ ?_ ?_ hi hj hk
  · intro e; subst e; rw [hi] at hj; injection hj with hj; injection hj with hj; exact n1 hj
  · intro e; subst e; rw [hi] at hk; injection hk with hk; injection hk with hk; exact n2 hk
  · intro e; subst e; rw [hj] at hk; injection hk with hk; injection hk with hk; exact n3 hk
theorem BxS.setZ (h : BxS T z E w0 φ0 φ b m W) (i : Nat) (hi : m[i]? = some (x, #[.bool false, .slice none 0 0, .slice none 0 0])) (u0 u1 u2 : Value) : BxS T z E w0 φ0 φ b (m.set i (x, #[u0, u1, u2])) (((W.setCell ⟨x, 0, none⟩ u0).setCell ⟨x, 1, none⟩ u1).setCell ⟨x, 2, none⟩ u2) := h.set3 i hi u0 u1 u2
theorem BxS.setX {c0 c1 c2 : Value} {m : List (Nat × Array Value)} (h : BxS T z E w0 φ0 φ b ((x, #[c0, c1, c2]) :: m) W) (u0 u1 u2 : Value) : BxS T z E w0 φ0 φ b ((x, #[u0, u1, u2]) :: m) (((W.setCell ⟨x, 0, none⟩ u0).setCell ⟨x, 1, none⟩ u1).setCell ⟨x, 2, none⟩ u2) := h.set3 0 rfl u0 u1 u2
theorem BxS.setY {p : Nat × Array Value} {c0 c1 c2 : Value} {m : List (Nat × Array Value)} (h : BxS T z E w0 φ0 φ b (p :: (x, #[c0, c1, c2]) :: m) W) (u0 u1 u2 : Value) : BxS T z E w0 φ0 φ b (p :: (x, #[u0, u1, u2]) :: m) (((W.setCell ⟨x, 0, none⟩ u0).setCell ⟨x, 1, none⟩ u1).setCell ⟨x, 2, none⟩ u2) := h.set3 1 rfl u0 u1 u2
theorem BxS.setQ {p q : Nat × Array Value} {c0 c1 c2 : Value} {m : List (Nat × Array Value)} (h : BxS T z E w0 φ0 φ b (p :: q :: (x, #[c0, c1, c2]) :: m) W) (u0 u1 u2 : Value) : BxS T z E w0 φ0 φ b (p :: q :: (x, #[u0, u1, u2]) :: m) (((W.setCell ⟨x, 0, none⟩ u0).setCell ⟨x, 1, none⟩ u1).setCell ⟨x, 2, none⟩ u2) := h.set3 2 rfl u0 u1 u2
theorem BxS.frz3 {p q r : Nat × Array Value} (h : BxS T z E w0 φ0 φ b [p, q, r] W) : ∃ φ', φ.le φ' ∧ RsSt w0 φ0 φ' b z T W ∧ φ' p.1 = some (.cells p.2 E) ∧ φ' q.1 = some (.cells q.2 E) ∧ φ' r.1 = some (.cells r.2 E) := by
  obtain ⟨φ1, l1, h1, e1⟩ := h.frz1
  obtain ⟨φ2, l2, h2, e2⟩ := h1.frz1
  obtain ⟨φ3, l3, h3, e3⟩ := h2.frz1
  exact ⟨φ3, (l1.trans l2).trans l3, h3.r, l3 _ _ (l2 _ _ e1), l3 _ _ e2, e3⟩
theorem BxS.p1 {p q r : Nat × Array Value} (h : BxS T z E w0 φ0 φ b [p, q, r] W) : BxS T z E w0 φ0 φ b [p, r, q] W := h.perm3 0 2 1 (by decide) (by decide) (by decide) rfl rfl rfl
theorem BxS.p2 {p q r : Nat × Array Value} (h : BxS T z E w0 φ0 φ b [p, q, r] W) : BxS T z E w0 φ0 φ b [q, p, r] W := h.perm3 1 0 2 (by decide) (by decide) (by decide) rfl rfl rfl
theorem BxS.p3 {p q r : Nat × Array Value} (h : BxS T z E w0 φ0 φ b [p, q, r] W) : BxS T z E w0 φ0 φ b [q, r, p] W := h.perm3 1 2 0 (by decide) (by decide) (by decide) rfl rfl rfl
theorem BxS.p4 {p q r : Nat × Array Value} (h : BxS T z E w0 φ0 φ b [p, q, r] W) : BxS T z E w0 φ0 φ b [r, p, q] W := h.perm3 2 0 1 (by decide) (by decide) (by decide) rfl rfl rfl
theorem BxS.p5 {p q r : Nat × Array Value} (h : BxS T z E w0 φ0 φ b [p, q, r] W) : BxS T z E w0 φ0 φ b [r, q, p] W := h.perm3 2 1 0 (by decide) (by decide) (by decide) rfl rfl rfl
theorem setCell_sz (w : World) (a : Addr) (v : Value) : (w.setCell a v).heap.size = w.heap.size := by simp [World.setCell]
theorem BxS.end0 {A B C : Array Value} (h : BxS T z E w0 φ0 φ b [] W) : BxS T z E w0 φ0 φ b [(W.heap.size, A), (W.heap.size + 1, B), (W.heap.size + 1 + 1, C)] (((W.alloc (.cells A E)).alloc (.cells B E)).alloc (.cells C E)) := by
  have h3 := ((h.alloc A).alloc B).alloc C
  rw [alloc_sz, alloc_sz] at h3
  exact h3.p5
theorem BxS.end1 {x : Nat} {u0 u1 u2 : Value} {A B : Array Value} (h : BxS T z E w0 φ0 φ b [(x, #[.bool false, .slice none 0 0, .slice none 0 0])] W) : BxS T z E w0 φ0 φ b [(x, #[u0, u1, u2]), (W.heap.size, A), (W.heap.size + 1, B)] (((((W.setCell ⟨x, 0, none⟩ u0).setCell ⟨x, 1, none⟩ u1).setCell ⟨x, 2, none⟩ u2).alloc (.cells A E)).alloc (.cells B E)) := by
  have h3 := ((h.setX u0 u1 u2).alloc A).alloc B
  simp only [alloc_sz, setCell_sz] at h3
  exact h3.p5
theorem BxS.end2a {x y : Nat} {u0 u1 u2 v0 v1 v2 : Value} {A : Array Value} (h : BxS T z E w0 φ0 φ b [(x, #[.bool false, .slice none 0 0, .slice none 0 0]), (y, #[.bool false, .slice none 0 0, .slice none 0 0])] W) : BxS T z E w0 φ0 φ b [(x, #[u0, u1, u2]), (y, #[v0, v1, v2]), (W.heap.size, A)] (((((((W.setCell ⟨x, 0, none⟩ u0).setCell ⟨x, 1, none⟩ u1).setCell ⟨x, 2, none⟩ u2).setCell ⟨y, 0, none⟩ v0).setCell ⟨y, 1, none⟩ v1).setCell ⟨y, 2, none⟩ v2).alloc (.cells A E)) := by
  have h3 := ((h.setX u0 u1 u2).setY v0 v1 v2).alloc A
  simp only [alloc_sz, setCell_sz] at h3
  exact h3.p3
theorem BxS.end2b {x y : Nat} {u0 u1 u2 v0 v1 v2 : Value} {A : Array Value} (h : BxS T z E w0 φ0 φ b [(x, #[.bool false, .slice none 0 0, .slice none 0 0]), (y, #[.bool false, .slice none 0 0, .slice none 0 0])] W) : BxS T z E w0 φ0 φ b [(x, #[u0, u1, u2]), (y, #[v0, v1, v2]), (W.heap.size, A)] (((((((W.setCell ⟨y, 0, none⟩ v0).setCell ⟨y, 1, none⟩ v1).setCell ⟨y, 2, none⟩ v2).setCell ⟨x, 0, none⟩ u0).setCell ⟨x, 1, none⟩ u1).setCell ⟨x, 2, none⟩ u2).alloc (.cells A E)) := by
  have h3 := ((h.setY v0 v1 v2).setX u0 u1 u2).alloc A
  simp only [alloc_sz, setCell_sz] at h3
  exact h3.p3
theorem BxS.end30 {x y q : Nat} {u0 u1 u2 v0 v1 v2 t0 t1 t2 : Value} (h : BxS T z E w0 φ0 φ b [(x, #[.bool false, .slice none 0 0, .slice none 0 0]), (y, #[.bool false, .slice none 0 0, .slice none 0 0]), (q, #[.bool false, .slice none 0 0, .slice none 0 0])] W) : BxS T z E w0 φ0 φ b [(x, #[u0, u1, u2]), (y, #[v0, v1, v2]), (q, #[t0, t1, t2])] (((((((((W.setCell ⟨x, 0, none⟩ u0).setCell ⟨x, 1, none⟩ u1).setCell ⟨x, 2, none⟩ u2).setCell ⟨y, 0, none⟩ v0).setCell ⟨y, 1, none⟩ v1).setCell ⟨y, 2, none⟩ v2).setCell ⟨q, 0, none⟩ t0).setCell ⟨q, 1, none⟩ t1).setCell ⟨q, 2, none⟩ t2) :=
  ((h.setX u0 u1 u2).setY v0 v1 v2).setQ t0 t1 t2
theorem BxS.end31 {x y q : Nat} {u0 u1 u2 v0 v1 v2 t0 t1 t2 : Value} (h : BxS T z E w0 φ0 φ b [(x, #[.bool false, .slice none 0 0, .slice none 0 0]), (y, #[.bool false, .slice none 0 0, .slice none 0 0]), (q, #[.bool false, .slice none 0 0, .slice none 0 0])] W) : BxS T z E w0 φ0 φ b [(x, #[u0, u1, u2]), (y, #[v0, v1, v2]), (q, #[t0, t1, t2])] (((((((((W.setCell ⟨x, 0, none⟩ u0).setCell ⟨x, 1, none⟩ u1).setCell ⟨x, 2, none⟩ u2).setCell ⟨q, 0, none⟩ t0).setCell ⟨q, 1, none⟩ t1).setCell ⟨q, 2, none⟩ t2).setCell ⟨y, 0, none⟩ v0).setCell ⟨y, 1, none⟩ v1).setCell ⟨y, 2, none⟩ v2) :=
  ((h.setX u0 u1 u2).setQ t0 t1 t2).setY v0 v1 v2
theorem BxS.end32 {x y q : Nat} {u0 u1 u2 v0 v1 v2 t0 t1 t2 : Value} (h : BxS T z E w0 φ0 φ b [(x, #[.bool false, .slice none 0 0, .slice none 0 0]), (y, #[.bool false, .slice none 0 0, .slice none 0 0]), (q, #[.bool false, .slice none 0 0, .slice none 0 0])] W) : BxS T z E w0 φ0 φ b [(x, #[u0, u1, u2]), (y, #[v0, v1, v2]), (q, #[t0, t1, t2])] (((((((((W.setCell ⟨y, 0, none⟩ v0).setCell ⟨y, 1, none⟩ v1).setCell ⟨y, 2, none⟩ v2).setCell ⟨x, 0, none⟩ u0).setCell ⟨x, 1, none⟩ u1).setCell ⟨x, 2, none⟩ u2).setCell ⟨q, 0, none⟩ t0).setCell ⟨q, 1, none⟩ t1).setCell ⟨q, 2, none⟩ t2) :=
  ((h.setY v0 v1 v2).setX u0 u1 u2).setQ t0 t1 t2
theorem BxS.end33 {x y q : Nat} {u0 u1 u2 v0 v1 v2 t0 t1 t2 : Value} (h : BxS T z E w0 φ0 φ b [(x, #[.bool false, .slice none 0 0, .slice none 0 0]), (y, #[.bool false, .slice none 0 0, .slice none 0 0]), (q, #[.bool false, .slice none 0 0, .slice none 0 0])] W) : BxS T z E w0 φ0 φ b [(x, #[u0, u1, u2]), (y, #[v0, v1, v2]), (q, #[t0, t1, t2])] (((((((((W.setCell ⟨y, 0, none⟩ v0).setCell ⟨y, 1, none⟩ v1).setCell ⟨y, 2, none⟩ v2).setCell ⟨q, 0, none⟩ t0).setCell ⟨q, 1, none⟩ t1).setCell ⟨q, 2, none⟩ t2).setCell ⟨x, 0, none⟩ u0).setCell ⟨x, 1, none⟩ u1).setCell ⟨x, 2, none⟩ u2) :=
  ((h.setY v0 v1 v2).setQ t0 t1 t2).setX u0 u1 u2
theorem BxS.end34 {x y q : Nat} {u0 u1 u2 v0 v1 v2 t0 t1 t2 : Value} (h : BxS T z E w0 φ0 φ b [(x, #[.bool false, .slice none 0 0, .slice none 0 0]), (y, #[.bool false, .slice none 0 0, .slice none 0 0]), (q, #[.bool false, .slice none 0 0, .slice none 0 0])] W) : BxS T z E w0 φ0 φ b [(x, #[u0, u1, u2]), (y, #[v0, v1, v2]), (q, #[t0, t1, t2])] (((((((((W.setCell ⟨q, 0, none⟩ t0).setCell ⟨q, 1, none⟩ t1).setCell ⟨q, 2, none⟩ t2).setCell ⟨x, 0, none⟩ u0).setCell ⟨x, 1, none⟩ u1).setCell ⟨x, 2, none⟩ u2).setCell ⟨y, 0, none⟩ v0).setCell ⟨y, 1, none⟩ v1).setCell ⟨y, 2, none⟩ v2) :=
  ((h.setQ t0 t1 t2).setX u0 u1 u2).setY v0 v1 v2
theorem BxS.end35 {x y q : Nat} {u0 u1 u2 v0 v1 v2 t0 t1 t2 : Value} (h : BxS T z E w0 φ0 φ b [(x, #[.bool false, .slice none 0 0, .slice none 0 0]), (y, #[.bool false, .slice none 0 0, .slice none 0 0]), (q, #[.bool false, .slice none 0 0, .slice none 0 0])] W) : BxS T z E w0 φ0 φ b [(x, #[u0, u1, u2]), (y, #[v0, v1, v2]), (q, #[t0, t1, t2])] (((((((((W.setCell ⟨q, 0, none⟩ t0).setCell ⟨q, 1, none⟩ t1).setCell ⟨q, 2, none⟩ t2).setCell ⟨y, 0, none⟩ v0).setCell ⟨y, 1, none⟩ v1).setCell ⟨y, 2, none⟩ v2).setCell ⟨x, 0, none⟩ u0).setCell ⟨x, 1, none⟩ u1).setCell ⟨x, 2, none⟩ u2) :=
  ((h.setQ t0 t1 t2).setY v0 v1 v2).setX u0 u1 u2
end
end Go.Proofs.YtdlnhmcgnpjooaaGreatDoor
