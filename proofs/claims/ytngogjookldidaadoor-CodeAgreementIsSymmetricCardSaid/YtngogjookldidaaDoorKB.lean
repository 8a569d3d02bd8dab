/- Plain law of meetings of codes: the first common code above two, distances, the triangle. No program in sight. The walks of the reference's within, titled, find. The walks of the reference's above and CheckFrame. The walk of the reference's CheckFrame. The walks of meeting and Meeting. Conditions: the tree is in memory as told. The walks of the reference's lineage, CheckCodings, and of slices.Clone at codings. The walk of the reference's CheckCodings. The walk of CodeDistancesAreDistances. Conditions: those that the claim form gives. The walk of Lift. The walk of the reference's Lift. The walk of movesOf. Conditions: the trees are in memory as told. The walk of Recode. The walk of the reference's Recode. Finals of codings: the plain law. No program in sight. The walks of cases, on both sides. Ranging over maps of integers in a walk; the counts of final. Conditions: none beyond what the claim form gives. -/
import Derived.Test.YtngogjookldidaaDoorKA
import Derived.Test.YtngogjookldidaaDoorLB
import Derived.Deep.RegionHeld3
import Derived.Deep.RegionLaw
import Derived.Deep.AppendLies
namespace Go.Proofs.YtngogjookldidaaDoor
set_option linter.unusedVariables false
set_option linter.unusedSimpArgs false

def Vld (l : List Nod) (n : Nat) (c : Int) (m : Nat) : Prop := lvA l n c = some m
theorem mem_upA {l : List Nod} {n : Nat} : ∀ {m : Nat} {c x : Int}, lvA l n c = some m → x ∈ upA l m c → ∃ j, lvA l n x = some (j + 1) ∧ j + 1 ≤ m ∧ (j + 1 = m → x = c) ∧ (∀ y ∈ upA l (j + 1) x, y ∈ upA l m c) ∧ (∀ y ∈ upA l m c, ∀ i, lvA l n y = some i → i ≤ j + 1 → y ∈ upA l (j + 1) x)
  | 0, c, x, h, hx => by simp [upA] at hx
  | m + 1, c, x, h, hx => by
    obtain ⟨h0, h1⟩ := lvA_step h
    rw [upA] at hx
    rcases List.mem_cons.1 hx with rfl | hx
    · exact ⟨m, h, Nat.le_refl _, fun _ => rfl, fun y hy => hy, fun y hy _ _ _ => hy⟩
    · obtain ⟨j, a, b, d, e, f⟩ := mem_upA h1 hx
      refine ⟨j, a, by omega, fun h => by omega, fun y hy => ?_, fun y hy i hi hle => ?_⟩
      · rw [upA]; exact List.mem_cons_of_mem _ (e y hy)
      · rw [upA] at hy
        rcases List.mem_cons.1 hy with rfl | hy
        · rw [h] at hi; cases hi; omega
        · exact f y hy i hi hle
/-- The code at which two meet: the first above a that is above b too, else 0. -/
noncomputable def meetOf (l : List Nod) (a b : Int) : Int := ((upL l a ++ [0]).find? (fun x => decide (x = 0 ∨ x ∈ upL l b))).getD 0
noncomputable def distOf (l : List Nod) (a b : Int) : Int := (lvl l a : Int) + lvl l b - 2 * lvl l (meetOf l a b)
def cmn (l : List Nod) (a b x : Int) : Prop := x ∈ upL l a ∧ x ∈ upL l b
theorem lvl_zero (l : List Nod) : lvl l 0 = 0 := by rw [lvl, lvA_zero]; rfl
theorem find_cases {l : List Nod} {n : Nat} (hn : l.length = n) (b : Int) (hz : ∀ x ∈ upL l b, x ≠ 0) : ∀ {m : Nat} {a : Int}, lvA l n a = some m →
    (((upA l m a ++ [0]).find? (fun x => decide (x = 0 ∨ x ∈ upL l b))).getD 0 = 0 ∧ ∀ x, x ∈ upA l m a → x ∉ upL l b) ∨
    ∃ x, ((upA l m a ++ [0]).find? (fun x => decide (x = 0 ∨ x ∈ upL l b))).getD 0 = x ∧ x ∈ upA l m a ∧ x ∈ upL l b ∧ ∀ y, y ∈ upA l m a → y ∈ upL l b → ∀ i j, lvA l n y = some i → lvA l n x = some j → i ≤ j
  | 0, a, h => by left; simp [upA]
  | m + 1, a, h => by
    obtain ⟨h0, h1⟩ := lvA_step h
    by_cases hb : a ∈ upL l b
    · right
      refine ⟨a, by simp [upA, hb], by simp [upA], hb, fun y hy hyb i j hi hj => ?_⟩
      obtain ⟨k, q1, q2, _⟩ := mem_upA h hy
      rw [h] at hj; rw [q1] at hi; cases hi; cases hj; exact q2
    · rcases find_cases hn b hz h1 with ⟨e, f⟩ | ⟨x, e, f1, f2, f3⟩
      · left
        refine ⟨by rw [upA]; simpa [hb, h0] using e, fun x hx => ?_⟩
        rw [upA] at hx
        rcases List.mem_cons.1 hx with rfl | hx
        · exact hb
        · exact f x hx
      · right
        refine ⟨x, by rw [upA]; simpa [hb, h0] using e, by rw [upA]; exact List.mem_cons_of_mem _ f1, f2, fun y hy hyb i j hi hj => ?_⟩
        rw [upA] at hy
        rcases List.mem_cons.1 hy with rfl | hy
        · exact absurd hyb hb
        · exact f3 y hy hyb i j hi hj
section
variable {l : List Nod} {n : Nat}
theorem upL_eq (hn : l.length = n) {a : Int} {m : Nat} (h : lvA l n a = some m) : upL l a = upA l m a ∧ lvl l a = m := by
  have : lvl l a = m := by rw [lvl, hn, h]; rfl
  exact ⟨by rw [upL, this], this⟩
theorem up_facts (hn : l.length = n) {a x : Int} {m : Nat} (h : lvA l n a = some m) (hx : x ∈ upL l a) :
    lvA l n x = some (lvl l x) ∧ 0 < lvl l x ∧ lvl l x ≤ lvl l a ∧ (lvl l x = lvl l a → x = a) ∧ (∀ y ∈ upL l x, y ∈ upL l a) ∧ (∀ y ∈ upL l a, lvl l y ≤ lvl l x → y ∈ upL l x) := by
  obtain ⟨e1, e2⟩ := upL_eq hn h
  rw [e1] at hx
  obtain ⟨j, q1, q2, q3, q4, q5⟩ := mem_upA h hx
  obtain ⟨f1, f2⟩ := upL_eq hn q1
  refine ⟨by rw [f2]; exact q1, by omega, by omega, fun he => q3 (by omega), fun y hy => ?_, fun y hy hle => ?_⟩
  · rw [f1] at hy; rw [e1]; exact q4 y hy
  · rw [e1] at hy; rw [f1]
    obtain ⟨i, r1, _⟩ := mem_upA h hy
    have := (upL_eq hn r1).2
    exact q5 y hy _ r1 (by omega)
theorem not0 (hn : l.length = n) {a x : Int} {m : Nat} (h : lvA l n a = some m) (hx : x ∈ upL l a) : x ≠ 0 := by
  intro e
  have := (up_facts hn h hx).2.1
  rw [e, lvl_zero] at this; omega
theorem self_mem (hn : l.length = n) {a : Int} {m : Nat} (h : lvA l n a = some m) (h0 : a ≠ 0) : a ∈ upL l a := by
  obtain ⟨j, rfl⟩ := lvA_pos h h0
  rw [(upL_eq hn h).1, upA]; simp
theorem meet_spec (hn : l.length = n) {a b : Int} {ma mb : Nat} (ha : lvA l n a = some ma) (hb : lvA l n b = some mb) :
    (meetOf l a b = 0 ∧ ∀ x, ¬ cmn l a b x) ∨ (cmn l a b (meetOf l a b) ∧ ∀ y, cmn l a b y → lvl l y ≤ lvl l (meetOf l a b)) := by
  obtain ⟨e1, e2⟩ := upL_eq hn ha
  rcases find_cases hn b (fun x hx => not0 hn hb hx) ha with ⟨e, f⟩ | ⟨x, e, f1, f2, f3⟩
  · left
    refine ⟨by rw [meetOf, e1]; exact e, fun x hx => ?_⟩
    have := hx.1
    rw [e1] at this
    exact f x this hx.2
  · right
    have hm : meetOf l a b = x := by rw [meetOf, e1]; exact e
    rw [hm]
    have hxa : x ∈ upL l a := by rw [e1]; exact f1
    refine ⟨⟨hxa, f2⟩, fun y hy => ?_⟩
    have h1 := hy.1
    rw [e1] at h1
    exact f3 y h1 hy.2 _ _ (up_facts hn ha hy.1).1 (up_facts hn ha hxa).1
theorem meet_comm (hn : l.length = n) {a b : Int} {ma mb : Nat} (ha : lvA l n a = some ma) (hb : lvA l n b = some mb) : meetOf l a b = meetOf l b a := by
  rcases meet_spec hn ha hb with ⟨h1, h2⟩ | ⟨h1, h2⟩ <;> rcases meet_spec hn hb ha with ⟨k1, k2⟩ | ⟨k1, k2⟩
  · rw [h1, k1]
  · exact absurd ⟨k1.2, k1.1⟩ (h2 _)
  · exact absurd ⟨h1.2, h1.1⟩ (k2 _)
  · have l1 := k2 _ ⟨h1.2, h1.1⟩
    have l2 := h2 _ ⟨k1.2, k1.1⟩
    have hm := (up_facts hn ha h1.1)
    have := hm.2.2.2.2.2 _ k1.2 l2
    have hf := up_facts hn hm.1 this
    exact (hf.2.2.2.1 (by omega)).symm
theorem dist_comm (hn : l.length = n) {a b : Int} {ma mb : Nat} (ha : lvA l n a = some ma) (hb : lvA l n b = some mb) : distOf l a b = distOf l b a := by
  unfold distOf; rw [meet_comm hn ha hb]; omega
theorem meet_le (hn : l.length = n) {a b : Int} {ma mb : Nat} (ha : lvA l n a = some ma) (hb : lvA l n b = some mb) : lvl l (meetOf l a b) ≤ lvl l a ∧ lvl l (meetOf l a b) ≤ lvl l b := by
  rcases meet_spec hn ha hb with ⟨h1, h2⟩ | ⟨h1, h2⟩
  · rw [h1, lvl_zero]; omega
  · exact ⟨(up_facts hn ha h1.1).2.2.1, (up_facts hn hb h1.2).2.2.1⟩
theorem dist_zero (hn : l.length = n) {a b : Int} {ma mb : Nat} (ha : lvA l n a = some ma) (hb : lvA l n b = some mb) (h0 : a ≠ 0) : distOf l a b = 0 ↔ a = b := by
  have hle := meet_le hn ha hb
  constructor
  · intro h
    unfold distOf at h
    have e1 : lvl l (meetOf l a b) = lvl l a := by omega
    have e2 : lvl l (meetOf l a b) = lvl l b := by omega
    rcases meet_spec hn ha hb with ⟨h1, h2⟩ | ⟨h1, h2⟩
    · exfalso
      have := (up_facts hn ha (self_mem hn ha h0)).2.1
      rw [h1, lvl_zero] at e1; omega
    · rw [← (up_facts hn ha h1.1).2.2.2.1 e1]
      exact (up_facts hn hb h1.2).2.2.2.1 e2
  · rintro rfl
    have hs := self_mem hn ha h0
    rcases meet_spec hn ha hb with ⟨h1, h2⟩ | ⟨h1, h2⟩
    · exact absurd ⟨hs, hs⟩ (h2 a)
    · have := h2 a ⟨hs, hs⟩
      unfold distOf; omega
theorem dist_tri (hn : l.length = n) {a b c : Int} {ma mb mc : Nat} (ha : lvA l n a = some ma) (hb : lvA l n b = some mb) (hc : lvA l n c = some mc) : distOf l a c ≤ distOf l a b + distOf l b c := by
  have key : lvl l (meetOf l a b) + lvl l (meetOf l b c) ≤ lvl l b + lvl l (meetOf l a c) := by
    have hab := meet_le hn ha hb
    have hbc := meet_le hn hb hc
    rcases meet_spec hn ha hb with ⟨h1, h2⟩ | ⟨h1, h2⟩
    · rw [h1, lvl_zero]; omega
    rcases meet_spec hn hb hc with ⟨k1, k2⟩ | ⟨k1, k2⟩
    · rw [k1, lvl_zero]; omega
    have fx := up_facts hn hb h1.2
    have fy := up_facts hn hb k1.1
    have hac : ∃ z, cmn l a c z ∧ (lvl l z = lvl l (meetOf l a b) ∨ lvl l z = lvl l (meetOf l b c)) := by
      rcases Nat.le_total (lvl l (meetOf l a b)) (lvl l (meetOf l b c)) with hle | hle
      · have := fy.2.2.2.2.2 _ h1.2 hle
        exact ⟨_, ⟨h1.1, (up_facts hn hc k1.2).2.2.2.2.1 _ this⟩, .inl rfl⟩
      · have := fx.2.2.2.2.2 _ k1.1 hle
        exact ⟨_, ⟨(up_facts hn ha h1.1).2.2.2.2.1 _ this, k1.2⟩, .inr rfl⟩
    obtain ⟨z, hz, hzl⟩ := hac
    rcases meet_spec hn ha hc with ⟨g1, g2⟩ | ⟨g1, g2⟩
    · exact absurd hz (g2 z)
    · have := g2 z hz
      rcases Nat.le_total (lvl l (meetOf l a b)) (lvl l (meetOf l b c)) with hle | hle
      · have h3 := fy.2.2.2.2.2 _ h1.2 hle
        have h4 := g2 _ ⟨h1.1, (up_facts hn hc k1.2).2.2.2.2.1 _ h3⟩
        omega
      · have h3 := fx.2.2.2.2.2 _ k1.1 hle
        have h4 := g2 _ ⟨(up_facts hn ha h1.1).2.2.2.2.1 _ h3, k1.2⟩
        omega
  unfold distOf; omega
end
end Go.Proofs.YtngogjookldidaaDoor

namespace Go.Proofs.YtngogjookldidaaDoor
open Go.RowKit
set_option linter.unusedVariables false
set_option linter.unusedSimpArgs false

/-- The place of a code, or -1. -/
def fdI (l : List Nod) (c : Int) : Int := match ix l c with | some i => (i : Int) | none => -1
theorem fdI_some {l : List Nod} {c : Int} {i : Nat} (h : ix l c = some i) : fdI l c = i := by rw [fdI, h]
theorem fdI_none {l : List Nod} {c : Int} (h : ix l c = none) : fdI l c = -1 := by rw [fdI, h]
end Go.Proofs.YtngogjookldidaaDoor

namespace Go.Proofs.YtngogjookldidaaDoor
open Go.RowKit
set_option linter.unusedVariables false
set_option linter.unusedSimpArgs false

theorem nodup_sub : ∀ (xs ys : List Int), xs.Nodup → (∀ x ∈ xs, x ∈ ys) → xs.length ≤ ys.length
  | [], _, _, _ => by simp
  | x :: xs, ys, hn, hs => by
    have hx : x ∈ ys := hs x (by simp)
    have hn' := List.nodup_cons.1 hn
    have := nodup_sub xs (ys.erase x) hn'.2 (fun y hy => by
      have hne : y ≠ x := fun e => hn'.1 (e ▸ hy)
      exact (List.mem_erase_of_ne hne).2 (hs y (by simp [hy])))
    rw [List.length_erase_of_mem hx] at this
    have hp : 0 < ys.length := List.length_pos_of_mem hx
    simp; omega
section
variable {l : List Nod} {n : Nat}
theorem upA_vldP (h : ParOk l n) : ∀ {f m : Nat} {c x : Int}, lvA l f c = some m → (c = 0 ∨ (ix l c).isSome = true) → x ∈ upA l m c → (ix l x).isSome = true
  | f, 0, c, x, hm, hc, hx => by simp [upA] at hx
  | f, m + 1, c, x, hm, hc, hx => by
    obtain ⟨h0, h1⟩ := lvA_step hm
    have hc := hc.resolve_left h0
    obtain ⟨_, _, _, _, _, hp⟩ := h.up hc
    rw [upA] at hx
    rcases List.mem_cons.1 hx with rfl | hx
    · exact hc
    · exact upA_vldP h h1 hp hx
theorem upA_nodup {f : Nat} : ∀ {m : Nat} {c : Int}, lvA l f c = some m → (upA l m c).Nodup
  | 0, c, hm => by simp [upA]
  | m + 1, c, hm => by
    obtain ⟨h0, h1⟩ := lvA_step hm
    rw [upA, List.nodup_cons]
    refine ⟨fun hx => ?_, upA_nodup h1⟩
    obtain ⟨j, q1, q2, _⟩ := mem_upA h1 hx
    rw [hm] at q1; cases q1; omega
theorem lvA_bound (h : ParOk l n) {f m : Nat} {c : Int} (hm : lvA l f c = some m) (hc : c = 0 ∨ (ix l c).isSome = true) : m ≤ n := by
  have h1 := nodup_sub (upA l m c) ((List.range n).map (cod l)) (upA_nodup hm) (fun x hx => by
    have := upA_vldP h hm hc hx
    obtain ⟨i, hi, he, _⟩ := h.up this
    exact List.mem_map.2 ⟨i, List.mem_range.2 hi, he⟩)
  rw [upA_length] at h1
  simpa using h1
/-- The j-th above a code. -/
def itC (l : List Nod) : Nat → Int → Int
  | 0, c => c
  | j + 1, c => parC l (itC l j c)
theorem itC_succ (l : List Nod) : ∀ (j : Nat) (c : Int), itC l (j + 1) c = itC l j (parC l c)
  | 0, c => rfl
  | j + 1, c => by rw [itC, itC_succ l j c, ← itC]
theorem upA_snoc (l : List Nod) : ∀ (j : Nat) (c : Int), upA l (j + 1) c = upA l j c ++ [itC l j c]
  | 0, c => rfl
  | j + 1, c => by rw [upA, upA_snoc l j (parC l c), upA, ← itC_succ]; rfl
theorem lvA_it : ∀ {j : Nat} {c : Int}, (∀ i, i ≤ j → itC l i c ≠ 0) → itC l (j + 1) c = 0 → lvA l (j + 1) c = some (j + 1)
  | 0, c, h, hz => by
    have h0 : c ≠ 0 := h 0 (Nat.le_refl _)
    have hz : parC l c = 0 := hz
    rw [lvA, if_neg h0, hz, lvA_zero]; rfl
  | j + 1, c, h, hz => by
    have h0 : c ≠ 0 := h 0 (by omega)
    rw [lvA, if_neg h0, lvA_it (fun i hi => by rw [← itC_succ]; exact h (i + 1) (by omega)) (by rw [← itC_succ]; exact hz)]; rfl
theorem it_zero {f : Nat} : ∀ {k : Nat} {c : Int}, lvA l f c = some k → itC l k c = 0
  | 0, c, h => by
    cases f with
    | zero => unfold lvA at h; split at h; assumption; cases h
    | succ f =>
      unfold lvA at h
      split at h
      · assumption
      · cases hp : lvA l f (parC l c) with
        | none => rw [hp] at h; cases h
        | some j => rw [hp] at h; cases h
  | k + 1, c, h => by
    obtain ⟨h0, h1⟩ := lvA_step h
    rw [itC_succ]; exact it_zero h1
/-- What the reference's above gives. -/
def abvF (l : List Nod) (c : Int) : List Int × Bool := match lvA l l.length c with | some _ => ((upL l c).tail, true) | none => ([], false)
theorem abv_t (h : ParOk l n) {c : Int} (hc : (ix l c).isSome = true) {j : Nat} (h1 : ∀ i, i ≤ j → itC l i c ≠ 0) (h2 : itC l (j + 1) c = 0) : abvF l c = ((upA l (j + 1) c).tail, true) := by
  have e := lvA_it h1 h2
  have hb := lvA_bound h e (.inr hc)
  have e2 : lvA l l.length c = some (j + 1) := lvA_mono e _ (by rw [h.len]; exact hb)
  unfold abvF
  rw [e2]
  dsimp only
  rw [upL, lvl_of e2]
theorem abv_f (h : ParOk l n) {c : Int} {j : Nat} (h1 : ∀ i, i ≤ j → itC l i c ≠ 0) (hj : n ≤ j) : abvF l c = ([], false) := by
  unfold abvF
  cases e : lvA l l.length c with
  | none => rfl
  | some k =>
    have := it_zero e
    have hk := lvA_le e
    exact absurd this (h1 k (by rw [h.len] at hk; omega))
end
def slLen : Value → Nat
  | .slice _ n _ => n
  | _ => 0
/-- A slice and a value. -/
def SlPostV {α : Type} [Rep α] (xs : List α) (v : Value) (φ : Phi) (w : World) (e : Ending) (w' : World) : Prop :=
  ∃ a cap φ', e = .returned (.tuple #[.slice a xs.length cap, v]) ∧ Inv w.heap.size w φ φ' w' ∧ SlV φ' a cap xs

end Go.Proofs.YtngogjookldidaaDoor

namespace Go.Proofs.YtngogjookldidaaDoor
open Go.RowKit
set_option linter.unusedVariables false
set_option linter.unusedSimpArgs false

section
variable {l : List Nod} {n : Nat}
/-- What the fourth and third tests of a frame ask of the list of those above. -/
theorem abv_loop (h : ParOk l n) {i : Nat} (hi : i < n) : (cyc18 l i ≠ 0 → (abvF l (cod l i)).2 = false ∧ cyc18 l i = 18) ∧ (cyc18 l i = 0 → (abvF l (cod l i)).2 = true ∧ cod l i ∉ (abvF l (cod l i)).1 ∧ (abvF l (cod l i)).1.length + 1 = lvl l (cod l i) ∧ lvl l (cod l i) ≤ n) := by
  unfold cyc18 abvF
  cases e : lvA l l.length (cod l i) with
  | none => simp
  | some m =>
    refine ⟨by simp, fun _ => ⟨rfl, ?_⟩⟩
    have e' : lvA l n (cod l i) = some m := by rw [← h.len]; exact e
    have h0 : cod l i ≠ 0 := by have := (h.rng i hi).1; omega
    obtain ⟨j, rfl⟩ := lvA_pos e' h0
    obtain ⟨e1, e2⟩ := upL_eq h.len e'
    have hnd := upA_nodup e'
    have hle := lvA_le e'
    dsimp only
    rw [e1, upA, List.nodup_cons] at *
    exact ⟨hnd.1, by rw [List.tail_cons, upA_length, e2], by omega⟩
end
theorem abv_len {l : List Nod} {n : Nat} (h : ParOk l n) (c : Int) : (abvF l c).1.length ≤ 600 := by
  unfold abvF
  split
  · next k e =>
    have h1 := lvA_le e
    have h2 := h.len
    have h3 := h.pos.2
    dsimp only
    rw [upL, lvl_of e, List.length_tail, upA_length]; omega
  · simp
theorem treeF_n {l : List Nod} {q : Int} (h : nodesF l = q) (h0 : q ≠ 0) : treeF l = q := by rw [treeF, h, if_pos h0]
end Go.Proofs.YtngogjookldidaaDoor

namespace Go.Proofs.YtngogjookldidaaDoor
open Go.RowKit
set_option linter.unusedVariables false
set_option linter.unusedSimpArgs false

theorem meet_at {l : List Nod} {a b : Int} {xs : List Int} {n k : Nat} (hx : xs = upL l a ++ [0]) (hn : xs.length = n) (hk : k < n) (hz : ∀ i, i < k → ¬ (xs.getD i 0 = 0 ∨ xs.getD i 0 ∈ upL l b)) (hp : xs.getD k 0 = 0 ∨ xs.getD k 0 ∈ upL l b) : meetOf l a b = xs.getD k 0 := by
  have hk' : k < xs.length := by omega
  have : xs.find? (fun x => decide (x = 0 ∨ x ∈ upL l b)) = some (xs.getD k 0) := by
    rw [List.find?_eq_some_iff_getElem]
    refine ⟨by simpa using hp, k, hk', by rw [getD_elem0 _ _ _ hk'], fun j hj => ?_⟩
    have := hz j hj
    rw [getD_elem0 _ _ _ (by omega)] at this
    simpa using this
  unfold meetOf
  rw [← hx, this]; rfl
theorem lvF_at {l : List Nod} {n : Nat} (h : TrOk l n) {c : Int} (hc : c = 0 ∨ (ix l c).isSome = true) : lvF l c = some (lvl l c : Int) ∧ lvl l c ≤ 8 := by
  rcases hc with rfl | hc
  · rw [lvl_zero]; unfold lvF lvK; simp
  · obtain ⟨i, hi, he, _⟩ := h.up hc
    obtain ⟨m, hm, h8⟩ := h.lev i hi
    have := lvF_of h.toFrOk hi hm
    rw [he] at this hm
    rw [lvl_of (by rw [h.len]; exact hm)]
    exact ⟨this, h8⟩
theorem upA_vld {l : List Nod} {n : Nat} (h : TrOk l n) : ∀ {m : Nat} {c x : Int}, lvA l n c = some m → (c = 0 ∨ (ix l c).isSome = true) → x ∈ upA l m c → (ix l x).isSome = true
  | 0, c, x, hm, hc, hx => by simp [upA] at hx
  | m + 1, c, x, hm, hc, hx => by
    obtain ⟨h0, h1⟩ := lvA_step hm
    have hc := hc.resolve_left h0
    obtain ⟨_, _, _, _, _, hp⟩ := h.up hc
    rw [upA] at hx
    rcases List.mem_cons.1 hx with rfl | hx
    · exact hc
    · exact upA_vld h h1 hp hx
theorem upL_vld {l : List Nod} {n : Nat} (h : TrOk l n) {c x : Int} (hc : c = 0 ∨ (ix l c).isSome = true) (hx : x ∈ upL l c) : (ix l x).isSome = true := by
  obtain ⟨m, hm, _⟩ := h.lv hc
  rw [(upL_eq h.len hm).1] at hx
  exact upA_vld h hm hc hx
theorem upL_len {l : List Nod} {n : Nat} (h : TrOk l n) {c : Int} (hc : c = 0 ∨ (ix l c).isSome = true) : (upL l c).length ≤ 8 := by
  obtain ⟨m, hm, h8⟩ := h.lv hc
  rw [(upL_eq h.len hm).1]
  have : ∀ (m : Nat) (c : Int), (upA l m c).length = m := by
    intro m
    induction m with
    | zero => intro c; rfl
    | succ m ih => intro c; rw [upA, List.length_cons, ih]
  rw [this]; exact h8

theorem code_lv {l : List Nod} {n : Nat} (h : TrOk l n) {c : Int} (hc : (ix l c).isSome = true) : (∃ m, lvA l n c = some m ∧ m ≤ 8) ∧ c ≠ 0 := by
  refine ⟨h.lv (.inr hc), ?_⟩
  obtain ⟨i, hi, he, _⟩ := h.up hc
  have := (h.rng i hi).1
  omega
theorem lvl_par {l : List Nod} {n : Nat} (h : TrOk l n) {c : Int} (hc : (ix l c).isSome = true) : lvl l c = lvl l (parC l c) + 1 ∧ upL l c = c :: upL l (parC l c) := by
  obtain ⟨⟨m, hm, _⟩, h0⟩ := code_lv h hc
  obtain ⟨j, rfl⟩ := lvA_pos hm h0
  have h1 := (lvA_step hm).2
  obtain ⟨e1, e2⟩ := upL_eq h.len hm
  obtain ⟨e3, e4⟩ := upL_eq h.len h1
  exact ⟨by omega, by rw [e1, e3, upA]⟩

theorem pair_row {w : World} {φ : Phi} (hφ : Fz φ w) (x y : Int) (T : TypeId) : ∃ φ', φ.le φ' ∧ Fz φ' (w.alloc (.cells #[.int .i64 x, .int .i64 y] T)) ∧ SlV φ' (some ⟨w.heap.size, 0, none⟩) 2 [x, y] := by
  have hnone : φ w.heap.size = none := by
    cases h : φ w.heap.size with
    | none => rfl
    | some o => have := hφ.mlt h; omega
  refine ⟨φ.upd w.heap.size (.cells #[.int .i64 x, .int .i64 y] T), φ.le_upd _ _ hnone, (hφ.alloc _).upd (heap_alloc_new w _), ⟨by simp, by simp [maxLen], fun h => (by cases h), fun _ => ⟨w.heap.size, 0, rfl, fun k hk => ?_⟩⟩⟩
  have hk2 : k = 0 ∨ k = 1 := by simp at hk; omega
  rcases hk2 with rfl | rfl
  · refine ⟨[.int .i64 x], rfl, fun j hj => ?_⟩
    have : j = 0 := by simp at hj; omega
    subst this
    simp [Phi.cell?, Phi.upd, Rep.size]
  · refine ⟨[.int .i64 y], rfl, fun j hj => ?_⟩
    have : j = 0 := by simp at hj; omega
    subst this
    simp [Phi.cell?, Phi.upd, Rep.size]
noncomputable def meetF (l : List Nod) (x y : Int) : Int × Int × Int := if codedF l [x, y] ≠ 0 then (0, 0, codedF l [x, y]) else (meetOf l x y, distOf l x y, 0)
def tup3 (r : Int × Int × Int) : Value := .tuple #[.int .i64 r.1, .int .i64 r.2.1, .int .i64 r.2.2]

end Go.Proofs.YtngogjookldidaaDoor

namespace Go.Proofs.YtngogjookldidaaDoor
open Go.RowKit
set_option linter.unusedVariables false
set_option linter.unusedSimpArgs false

theorem TrOk.toPar {l : List Nod} {n : Nat} (h : TrOk l n) : ParOk l n := ⟨h.toFrOk, h.par⟩
theorem abv_tr {l : List Nod} {n : Nat} (h : TrOk l n) {c : Int} (hc : (ix l c).isSome = true) : abvF l c = ((upL l c).tail, true) ∧ upL l c = c :: (upL l c).tail := by
  obtain ⟨⟨m, hm, _⟩, h0⟩ := code_lv h hc
  unfold abvF
  rw [h.len, hm]
  refine ⟨rfl, ?_⟩
  rw [(lvl_par h hc).2]; rfl
end Go.Proofs.YtngogjookldidaaDoor

namespace Go.Proofs.YtngogjookldidaaDoor
open Go.RowKit
set_option linter.unusedVariables false
set_option linter.unusedSimpArgs false

theorem ix_none {l : List Nod} {c : Int} : (ix l c).isSome = false ↔ ix l c = none := by cases ix l c <;> simp
theorem frc_at {l : List Nod} {cs : List Cdg} {q : Int} (h : treeF l = 0) (h2 : cdgF l cs = q) : frcF l cs = q := by rw [frcF, if_neg (by simp [h]), h2]
end Go.Proofs.YtngogjookldidaaDoor

namespace Go.Proofs.YtngogjookldidaaDoor
open Go.RowKit
set_option linter.unusedVariables false
set_option linter.unusedSimpArgs false

theorem codedF_two {l : List Nod} {x y : Int} : codedF l [x, y] = if treeF l ≠ 0 then treeF l else if (ix l x).isSome = true ∧ (ix l y).isSome = true then 0 else 5 := by
  unfold codedF
  congr 1
  simp only [List.length_cons, List.length_nil, scan, miss5]
  cases h1 : (ix l x).isSome <;> cases h2 : (ix l y).isSome <;> simp [h1, h2]
theorem codedF_zero {l : List Nod} {x y : Int} (h : codedF l [x, y] = 0) : treeF l = 0 ∧ (ix l x).isSome = true ∧ (ix l y).isSome = true := by
  rw [codedF_two] at h
  split at h
  · next h1 => exact absurd h h1
  · next h1 =>
    split at h
    · next h2 => exact ⟨by simpa using h1, h2⟩
    · cases h
theorem dist_bound {l : List Nod} {n : Nat} (h : TrOk l n) {a b : Int} (ha : (ix l a).isSome = true) (hb : (ix l b).isSome = true) : 0 ≤ distOf l a b ∧ distOf l a b ≤ 16 := by
  obtain ⟨⟨ma, h1, h2⟩, _⟩ := code_lv h ha
  obtain ⟨⟨mb, h3, h4⟩, _⟩ := code_lv h hb
  have hle := meet_le h.len h1 h3
  have e1 := (upL_eq h.len h1).2
  have e2 := (upL_eq h.len h3).2
  unfold distOf; omega
theorem meetF_comm (l : List Nod) (a b : Int) : meetF l a b = meetF l b a := by
  have hc : codedF l [a, b] = codedF l [b, a] := by rw [codedF_two, codedF_two]; simp only [and_comm]
  unfold meetF
  rw [← hc]
  by_cases h : codedF l [a, b] = 0
  · rw [if_neg (by simp [h]), if_neg (by simp [h])]
    obtain ⟨h1, h2, h3⟩ := codedF_zero h
    have ht := treeF_zero h1
    obtain ⟨⟨ma, q1, _⟩, _⟩ := code_lv ht h2
    obtain ⟨⟨mb, q2, _⟩, _⟩ := code_lv ht h3
    rw [meet_comm ht.len q1 q2, dist_comm ht.len q1 q2]
  · rw [if_pos h, if_pos h]
theorem dist_law (l : List Nod) (a b c : Int) (h : (meetF l a b).2.2 = 0) :
    (meetF l b c).2.2 = (meetF l a c).2.2 ∧ ((meetF l b c).2.2 = 0 → ((meetF l a b).2.1 = 0 ↔ a = b) ∧ (meetF l a c).2.1 ≤ (meetF l a b).2.1 + (meetF l b c).2.1 ∧ 0 ≤ (meetF l a b).2.1 ∧ (meetF l a b).2.1 ≤ 16 ∧ 0 ≤ (meetF l b c).2.1 ∧ (meetF l b c).2.1 ≤ 16) := by
  have third : ∀ x y, (meetF l x y).2.2 = codedF l [x, y] := fun x y => by
    unfold meetF; by_cases h : codedF l [x, y] = 0
    · rw [if_neg (by simp [h]), h]
    · rw [if_pos h]
  have second : ∀ x y, codedF l [x, y] = 0 → (meetF l x y).2.1 = distOf l x y := fun x y h => by unfold meetF; rw [if_neg (by simp [h])]
  have hz : codedF l [a, b] = 0 := by rw [← third]; exact h
  obtain ⟨h1, ha, hb⟩ := codedF_zero hz
  have e : codedF l [b, c] = codedF l [a, c] := by rw [codedF_two, codedF_two, ha, hb]
  rw [third, third]
  refine ⟨e, fun h0 => ?_⟩
  obtain ⟨_, _, hc⟩ := codedF_zero h0
  rw [second _ _ hz, second _ _ h0, second _ _ (e ▸ h0)]
  have ht := treeF_zero h1
  obtain ⟨⟨ma, q1, _⟩, n1⟩ := code_lv ht ha
  obtain ⟨⟨mb, q2, _⟩, n2⟩ := code_lv ht hb
  obtain ⟨⟨mc, q3, _⟩, n3⟩ := code_lv ht hc
  have b1 := dist_bound ht ha hb
  have b2 := dist_bound ht hb hc
  exact ⟨dist_zero ht.len q1 q2 n1, dist_tri ht.len q1 q2 q3, b1.1, b1.2, b2.1, b2.2⟩

theorem rNode (H : Type) (enc : TypeId × Value → H) (W : World) : Reads enc Tryd.prog W 22 (List Nod) (fun xs => xs.length * Tryd.prog.bytesOf 62 ≤ reachBytes ∧ ∀ x ∈ xs, IsI64 x.1 ∧ IsI64 x.2.1 ∧ StrG x.2.2) :=
  Reads.slice Tryd.underlying22 (by kernel_rfl) (by decide) (Reads.struct3 (s1 := 1) (s2 := 1) (s3 := 1) Tryd.underlying62 (by kernel_rfl) (by kernel_rfl) (by kernel_rfl) (by kernel_rfl) (by kernel_rfl) (by kernel_rfl) (by kernel_rfl) (rInt H enc W) (rInt H enc W) (rStr H enc W))
theorem nodes_len {l : List Nod} (h : l.length * Tryd.prog.bytesOf 62 ≤ reachBytes) : l.length ≤ 9223372036854775807 := by
  have hb : Tryd.prog.bytesOf 62 = 32 := by kernel_rfl
  rw [hb] at h; unfold reachBytes at h; omega

end Go.Proofs.YtngogjookldidaaDoor

namespace Go.Proofs.YtngogjookldidaaDoor
open Go.RowKit
set_option linter.unusedVariables false
set_option linter.unusedSimpArgs false

/-- The code of at most a level. -/
def liftC (l : List Nod) (lev : Nat) (c : Int) : Int := (upL l c).getD (lvl l c - lev) 0
def liftX (l : List Nod) (lev : Nat) (x : Cdg) : Cdg := (x.1, x.2.1, liftC l lev x.2.2)
noncomputable def liftF (l : List Nod) (cs : List Cdg) (lev : Int) : List Cdg × Int :=
  if frcF l cs ≠ 0 then ([], frcF l cs) else if outB lev 1 8 = true then ([], 1) else (cs.map (liftX l lev.toNat), 0)
section
variable {l : List Nod} {n : Nat}
theorem liftC_stop (h : TrOk l n) {c : Int} (hc : (ix l c).isSome = true) {lev : Nat} (hl : lvl l c ≤ lev) : liftC l lev c = c := by
  unfold liftC
  rw [show lvl l c - lev = 0 by omega, (lvl_par h hc).2]; rfl
theorem liftC_step (h : TrOk l n) {c : Int} (hc : (ix l c).isSome = true) {lev : Nat} (hl : lev < lvl l c) : liftC l lev c = liftC l lev (parC l c) := by
  unfold liftC
  obtain ⟨e1, e2⟩ := lvl_par h hc
  rw [e2, show lvl l c - lev = (lvl l (parC l c) - lev) + 1 by omega]; rfl
end
theorem slC : SliceTy Tryd.prog 23 45 (.agg #[.int .i64 0, .int .i64 0, .int .i64 0]) (Rep.size Cdg) 24 := ⟨Tryd.underlying23, by kernel_rfl, rfl, by decide, by decide⟩
theorem cdg_ok {l : List Nod} {cs : List Cdg} {n : Nat} (hn : Hid (cs.length = n)) (h : frcF l cs = 0) : n ≤ 20000 ∧ treeF l = 0 ∧ ∀ k, k < n → (ix l (cs.getD k cdg0).2.2).isSome = true := by
  unfold frcF at h
  split at h
  · next h1 => exact absurd h h1
  next h1 =>
    unfold cdgF at h
    rw [hn.out] at h
    split at h
    · cases h
    next h2 =>
      refine ⟨by omega, by simpa using h1, fun k hk => ?_⟩
      have hb := scan_all _ h k hk
      unfold cdgBad at hb
      cases hx : (ix l (cs.getD k cdg0).2.2).isSome
      · exfalso
        rw [hx] at hb
        split at hb
        · cases hb
        · split at hb
          · cases hb
          · simp at hb
      · rfl
end Go.Proofs.YtngogjookldidaaDoor

namespace Go.Proofs.YtngogjookldidaaDoor
open Go.RowKit
set_option linter.unusedVariables false
set_option linter.unusedSimpArgs false

theorem Own.cdgD {B : Nat} {φ : Phi} {w : World} {E : TypeId} {a : Option Addr} {cap : Nat} {xs : List Cdg} (h : Own B φ w E a cap xs) {k n : Nat} (hn : Hid (xs.length = n)) (hk : k < n) :
    ∃ g, a = some ⟨g, 0, none⟩ ∧ B ≤ g ∧ g < w.heap.size ∧ w.cell? ⟨g, k * 3, none⟩ = some (.int .i64 (xs.getD k cdg0).1) ∧ w.cell? ⟨g, k * 3 + 1, none⟩ = some (.int .i64 (xs.getD k cdg0).2.1) ∧ w.cell? ⟨g, k * 3 + 2, none⟩ = some (.int .i64 (xs.getD k cdg0).2.2) ∧ (∀ j, w.frozen? ⟨g, j, none⟩ = false) ∧
      ∀ y w0 φ0, Inv B w0 φ0 φ w → Own B φ (w.setCell ⟨g, k * 3 + 2, none⟩ (.int .i64 y)) E a cap (xs.set k ((xs.getD k cdg0).1, (xs.getD k cdg0).2.1, y)) ∧ Inv B w0 φ0 φ (w.setCell ⟨g, k * 3 + 2, none⟩ (.int .i64 y)) := by
  have hk' : k < xs.length := by rw [hn.out]; exact hk
  obtain ⟨g, rfl, h1, h2, _, h4, hc⟩ := h.elem hk'
  obtain ⟨cs, ⟨c, d, rfl, e1, c2, d2, rfl, e2, e3⟩, hj⟩ := hc k hk'
  cases e1; cases e2; cases e3
  have j0 := hj 0 (by simp)
  have j1 := hj 1 (by simp)
  have j2 := hj 2 (by simp)
  simp [Rep.size] at j0 j1 j2
  rw [getD_elem0 _ _ _ hk']
  refine ⟨g, rfl, h1, h2, j0, j1, j2, h4, fun y w0 φ0 hi => ?_⟩
  exact h.setCell hi hk' (y := (xs[k].1, xs[k].2.1, y)) (j := 2) (u := .int .i64 y) hj rfl (by simp) ⟨[.int .i64 xs[k].1], [.int .i64 xs[k].2.1, .int .i64 y], rfl, rfl, [.int .i64 xs[k].2.1], [.int .i64 y], rfl, rfl, rfl⟩
def lfK (l : List Nod) (lev : Nat) (cs : List Cdg) (k : Nat) : List Cdg := (cs.take k).map (liftX l lev) ++ cs.drop k
theorem lfK_len (l : List Nod) (lev : Nat) (cs : List Cdg) (k : Nat) (hk : k ≤ cs.length) : (lfK l lev cs k).length = cs.length := by unfold lfK; simp; omega
theorem lfK_at (l : List Nod) (lev : Nat) (cs : List Cdg) (k : Nat) (hk : k < cs.length) : (lfK l lev cs k).getD k cdg0 = cs.getD k cdg0 := by
  have hl : ((cs.take k).map (liftX l lev)).length = k := by simp; omega
  unfold lfK
  rw [List.getD_eq_getElem?_getD, List.getElem?_append_right (by omega), hl, Nat.sub_self, List.getElem?_drop, Nat.add_zero, ← List.getD_eq_getElem?_getD]
theorem lfK_set (l : List Nod) (lev : Nat) (cs : List Cdg) (k : Nat) (hk : k < cs.length) : (lfK l lev cs k).set k (liftX l lev (cs.getD k cdg0)) = lfK l lev cs (k + 1) := by
  have hl : ((cs.take k).map (liftX l lev)).length = k := by simp; omega
  unfold lfK
  rw [List.set_append_right _ _ (by omega), hl, Nat.sub_self, take_snocD cdg0 cs k _ rfl hk, List.map_append, List.drop_eq_getElem_cons hk, getD_elem0 _ _ _ hk]
  simp only [List.set_cons_zero, List.map_cons, List.map_nil, List.append_assoc, List.singleton_append]
end Go.Proofs.YtngogjookldidaaDoor

namespace Go.Proofs.YtngogjookldidaaDoor
open Go.RowKit
set_option linter.unusedVariables false
set_option linter.unusedSimpArgs false

abbrev Mov := Int × Int
abbrev mov0 : Mov := (0, 0)
theorem SlV.movD {φ : Phi} {a : Option Addr} {cap : Nat} {xs : List Mov} (h : SlV φ a cap xs) {k n : Nat} (hn : Hid (xs.length = n)) (hk : k < n) :
    ∃ b off, a = some ⟨b, off, none⟩ ∧ ∀ k, k < n → ∀ w, Fz φ w → b < w.heap.size ∧ w.cell? ⟨b, off + k * 2, none⟩ = some (.int .i64 (xs.getD k mov0).1) ∧ w.cell? ⟨b, off + k * 2 + 1, none⟩ = some (.int .i64 (xs.getD k mov0).2) := by
  obtain ⟨b, off, ha, hc⟩ := h.cellsD mov0 hn hk
  refine ⟨b, off, ha, fun k hk w hw => ?_⟩
  obtain ⟨cs, ⟨c, d, rfl, h1, h2⟩, hj⟩ := hc k hk
  cases h1; cases h2
  have j0 := hj 0 (by simp)
  have j1 := hj 1 (by simp)
  simp [Rep.size] at j0 j1
  exact ⟨hw.lt j0, hw.cell j0, hw.cell j1⟩
def mvBad (l l2 : List Nod) (ms : List Mov) (k : Nat) : Int :=
  if (ix l (ms.getD k mov0).1).isSome = false then 5
  else if (ms.getD k mov0).2 ≠ 0 ∧ (ix l2 (ms.getD k mov0).2).isSome = false then 5
  else if 0 < k ∧ (ms.getD k mov0).1 ≤ (ms.getD (k - 1) mov0).1 then 7 else 0
def mvsF (l l2 : List Nod) (ms : List Mov) : Int := scan (mvBad l l2 ms) ms.length
def mvK (ms : List Mov) : Nat → Int → Option Int
  | 0 => fun _ => none
  | k + 1 => updF (mvK ms k) (ms.getD k mov0).1 (ms.getD k mov0).2
theorem mvsF_at {l l2 : List Nod} {ms : List Mov} {n k : Nat} (hn : Hid (ms.length = n)) (hk : k < n) (h : Hid (∀ i, i < k → mvBad l l2 ms i = 0)) {c : Int} (hc : mvBad l l2 ms k = c) (hc0 : c ≠ 0) : mvsF l l2 ms = c := by
  rw [mvsF, hn.out, scan_stop h.out hk (by rw [hc]; exact hc0), hc]
theorem mvsF_ok {l l2 : List Nod} {ms : List Mov} {n : Nat} (hn : Hid (ms.length = n)) (h : Hid (∀ i, i < n → mvBad l l2 ms i = 0)) : mvsF l l2 ms = 0 := by
  rw [mvsF, hn.out, scan_zero _ _ h.out]
def MovesPost (l l2 : List Nod) (ms : List Mov) (n : Nat) (w : World) (e : Ending) (w' : World) : Prop :=
  Below w.heap.size w w' ∧ ((mvsF l l2 ms ≠ 0 ∧ e = .returned (.tuple #[.map none, .int .i64 (mvsF l l2 ms)])) ∨ (mvsF l l2 ms = 0 ∧ ∃ r, e = .returned (.tuple #[.map (some r), .int .i64 0]) ∧ MapW w' r (mvK ms n)))
structure MvSt (w : World) (r : Nat) (f : Int → Option Int) (wr : World) : Prop where
  bel : Below w.heap.size w wr
  map : MapW wr r f
  lo : w.heap.size ≤ r
theorem MvSt.callB {w wr w' : World} {r : Nat} {f : Int → Option Int} (h : MvSt w r f wr) (hb : Below wr.heap.size wr w') : MvSt w r f w' := ⟨h.bel.trans (hb.mono h.bel.size), h.map.callB hb, h.lo⟩
theorem MvSt.alloc {w wr : World} {r : Nat} {f : Int → Option Int} (h : MvSt w r f wr) (o : Obj) : MvSt w r f (wr.alloc o) := h.callB ((Below.refl _ _).alloc (Nat.le_refl _) o)
theorem MvSt.drewN {w wr : World} {r : Nat} {f : Int → Option Int} (h : MvSt w r f wr) (q : Nat) : MvSt w r f (wr.drewN q) := h.callB (bdrewN (Below.refl _ _) q)
/-- A store: the object that comes of it, the run, the new state; behind any draws. -/
theorem MvSt.put {w wr : World} {r : Nat} {f : Int → Option Int} (h : MvSt w r f wr) (k x : Int) : ∃ o, (∀ q, (Instr.mapUpdate 31 (.map (some r)) (.int .i64 k) (.int .i64 x)).run Tryd.prog (wr.drewN q) = .ok () (setMap (wr.drewN q) r o)) ∧ ∀ q, MvSt w r (updF f k x) (setMap (wr.drewN q) r o) := by
  obtain ⟨o, h1, h2⟩ := h.map.put k x
  exact ⟨o, h1, fun q => ⟨Below_grown (bdrewN h.bel q) (setMap_grown _ r o) h.lo, h2 _ (setMap_same o h.map.lt), h.lo⟩⟩

end Go.Proofs.YtngogjookldidaaDoor

namespace Go.Proofs.YtngogjookldidaaDoor
open Go.RowKit
set_option linter.unusedVariables false
set_option linter.unusedSimpArgs false

/-- The title of a code. -/
def ttl (l : List Nod) (c : Int) : ByteArray := tit l (atV l c)
/-- The new code of a code; 0: there is none. -/
noncomputable def recC (l l2 : List Nod) (f : Int → Option Int) (c : Int) : Int :=
  match f c with
  | some t => t
  | none => if (ix l2 c).isSome = true then (if ttl l2 c = ttl l c then c else 0) else 0
noncomputable def recD (l l2 : List Nod) (f : Int → Option Int) (cs : List Cdg) : List Cdg := cs.filterMap fun x => if recC l l2 f x.2.2 = 0 then none else some (x.1, x.2.1, recC l l2 f x.2.2)
noncomputable def recL (l l2 : List Nod) (f : Int → Option Int) (cs : List Cdg) : List Cdg := cs.filter fun x => decide (recC l l2 f x.2.2 = 0)
noncomputable def recF (l l2 : List Nod) (ms : List Mov) (cs : List Cdg) : List Cdg × List Cdg × Int :=
  if treeF l ≠ 0 then ([], [], treeF l) else if treeF l2 ≠ 0 then ([], [], treeF l2) else if mvsF l l2 ms ≠ 0 then ([], [], mvsF l l2 ms) else if cdgF l cs ≠ 0 then ([], [], cdgF l cs)
  else (recD l l2 (mvK ms ms.length) cs, recL l l2 (mvK ms ms.length) cs, 0)
def SlPost2 {α β : Type} [Rep α] [Rep β] (r : List α × List β × Int) (φ : Phi) (w : World) (e : Ending) (w' : World) : Prop :=
  ∃ a1 c1 a2 c2 φ', e = .returned (.tuple #[.slice a1 r.1.length c1, .slice a2 r.2.1.length c2, .int .i64 r.2.2]) ∧ Inv w.heap.size w φ φ' w' ∧ SlV φ' a1 c1 r.1 ∧ SlV φ' a2 c2 r.2.1
theorem SlPost2.err {α β : Type} [Rep α] [Rep β] {r : List α × List β × Int} {φ : Phi} {w w' : World} {q : Int} (hr : r = ([], [], q)) (hφ : Fz φ w) (hb : Below w.heap.size w w') : SlPost2 r φ w (.returned (.tuple #[.slice none 0 0, .slice none 0 0, .int .i64 q])) w' :=
  ⟨none, 0, none, 0, φ, by rw [hr]; rfl, (Inv.start hφ).callB hb, by rw [hr]; exact SlV.empty _, by rw [hr]; exact SlV.empty _⟩
theorem rec_snoc (l l2 : List Nod) (f : Int → Option Int) (cs : List Cdg) (x : Cdg) : recD l l2 f (cs ++ [x]) = (if recC l l2 f x.2.2 = 0 then recD l l2 f cs else recD l l2 f cs ++ [(x.1, x.2.1, recC l l2 f x.2.2)]) ∧ recL l l2 f (cs ++ [x]) = (if recC l l2 f x.2.2 = 0 then recL l l2 f cs ++ [x] else recL l l2 f cs) := by
  unfold recD recL
  rw [List.filterMap_append, List.filter_append]
  by_cases h : recC l l2 f x.2.2 = 0 <;> simp [h]
theorem rec_len (l l2 : List Nod) (f : Int → Option Int) (cs : List Cdg) : (recD l l2 f cs).length ≤ cs.length ∧ (recL l l2 f cs).length ≤ cs.length := by
  unfold recD recL; exact ⟨List.length_filterMap_le _ _, List.length_filter_le _ _⟩
end Go.Proofs.YtngogjookldidaaDoor

namespace Go.Proofs.YtngogjookldidaaDoor
open Go.RowKit
set_option linter.unusedVariables false
set_option linter.unusedSimpArgs false

theorem SlPost2.err' {α β : Type} [Rep α] [Rep β] {r : List α × List β × Int} {φ : Phi} {w w' : World} {q : Int} (hr : r = ([], [], q)) (hφ : Fz φ w) (hb : Below w.heap.size w w') : SlPost2 r φ w (.returned (.tuple #[.slice none 0 0, .slice none 0 0, .int .i64 q])) w' := SlPost2.err hr hφ hb
end Go.Proofs.YtngogjookldidaaDoor

namespace Go.Proofs.YtngogjookldidaaDoor
set_option linter.unusedVariables false
set_option linter.unusedSimpArgs false

/-- How many codings have a code; how many have it above their own, or as their own. -/
def cntO (g : List Cdg) (c : Int) : Nat := (g.filter (fun x => decide (x.2.2 = c))).length
def cntA (l : List Nod) (g : List Cdg) (c : Int) : Nat := (g.filter (fun x => decide (c ∈ upL l x.2.2))).length
def majO (g : List Cdg) (c : Int) : Prop := g.length < 2 * cntO g c
def majA (l : List Nod) (g : List Cdg) (c : Int) : Prop := g.length < 2 * cntA l g c
/-- What becomes of codings: (case, code, way). -/
def FinR (l : List Nod) (g : List Cdg) (r : Cdg) : Prop :=
  r.1 = (g.getD 0 cdg0).1 ∧
  ((majO g r.2.1 ∧ r.2.2 = if cntO g r.2.1 = g.length then 1 else 2) ∨
   ((∀ c, ¬ majO g c) ∧ majA l g r.2.1 ∧ (∀ c, majA l g c → lvl l c ≤ lvl l r.2.1) ∧ r.2.2 = 3) ∨
   ((∀ c, ¬ majO g c) ∧ (∀ c, ¬ majA l g c) ∧ r.2.1 = 0 ∧ r.2.2 = 4))
theorem two_maj {α : Type} (p q : α → Bool) : ∀ (g : List α), g.length < (g.filter p).length + (g.filter q).length → ∃ x ∈ g, p x = true ∧ q x = true
  | [], h => by simp at h
  | x :: g, h => by
    by_cases hx : p x = true ∧ q x = true
    · exact ⟨x, by simp, hx⟩
    · obtain ⟨y, hy, hpq⟩ := two_maj p q g (by
        rw [List.filter_cons, List.filter_cons] at h
        cases hp : p x <;> cases hq : q x <;> simp [hp, hq] at h hx <;> omega)
      exact ⟨y, by simp [hy], hpq⟩
theorem cntO_le (g : List Cdg) (c : Int) : cntO g c ≤ g.length := List.length_filter_le _ _
theorem cntA_le (l : List Nod) (g : List Cdg) (c : Int) : cntA l g c ≤ g.length := List.length_filter_le _ _
theorem cntO_snoc (g : List Cdg) (x : Cdg) (c : Int) : cntO (g ++ [x]) c = cntO g c + if x.2.2 = c then 1 else 0 := by
  unfold cntO; rw [List.filter_append]; by_cases h : x.2.2 = c <;> simp [h]
theorem cntA_snoc (l : List Nod) (g : List Cdg) (x : Cdg) (c : Int) : cntA l (g ++ [x]) c = cntA l g c + if c ∈ upL l x.2.2 then 1 else 0 := by
  unfold cntA; rw [List.filter_append]; by_cases h : c ∈ upL l x.2.2 <;> simp [h]
theorem cnt_mem {g : List Cdg} {c : Int} (h : 0 < cntO g c) : ∃ x ∈ g, x.2.2 = c := by
  unfold cntO at h
  obtain ⟨x, hx⟩ := List.exists_mem_of_length_pos h
  rw [List.mem_filter] at hx
  exact ⟨x, hx.1, by simpa using hx.2⟩
theorem cntA_mem {l : List Nod} {g : List Cdg} {c : Int} (h : 0 < cntA l g c) : ∃ x ∈ g, c ∈ upL l x.2.2 := by
  unfold cntA at h
  obtain ⟨x, hx⟩ := List.exists_mem_of_length_pos h
  rw [List.mem_filter] at hx
  exact ⟨x, hx.1, by simpa using hx.2⟩
theorem majO_uniq {g : List Cdg} {c c' : Int} (h : majO g c) (h' : majO g c') : c = c' := by
  unfold majO cntO at h h'
  obtain ⟨x, _, h1, h2⟩ := two_maj (fun x : Cdg => decide (x.2.2 = c)) (fun x : Cdg => decide (x.2.2 = c')) g (by omega)
  simp at h1 h2
  exact h1.symm.trans h2
theorem majA_both {l : List Nod} {g : List Cdg} {c c' : Int} (h : majA l g c) (h' : majA l g c') : ∃ x ∈ g, c ∈ upL l x.2.2 ∧ c' ∈ upL l x.2.2 := by
  unfold majA cntA at h h'
  obtain ⟨x, hx, h1, h2⟩ := two_maj (fun x : Cdg => decide (c ∈ upL l x.2.2)) (fun x : Cdg => decide (c' ∈ upL l x.2.2)) g (by omega)
  simp at h1 h2
  exact ⟨x, hx, h1, h2⟩
section
variable {l : List Nod} {n : Nat} {g : List Cdg}
theorem majA_up (ht : TrOk l n) (hv : ∀ x ∈ g, (ix l x.2.2).isSome = true) {c c' : Int} (h : majA l g c) (h' : majA l g c') (hl : lvl l c' ≤ lvl l c) : c' ∈ upL l c := by
  obtain ⟨x, hx, h1, h2⟩ := majA_both h h'
  obtain ⟨⟨m, hm, _⟩, _⟩ := code_lv ht (hv x hx)
  exact (up_facts ht.len hm h1).2.2.2.2.2 _ h2 hl
theorem majA_vld (ht : TrOk l n) (hv : ∀ x ∈ g, (ix l x.2.2).isSome = true) {c : Int} (h : 0 < cntA l g c) : (ix l c).isSome = true := by
  obtain ⟨x, hx, h1⟩ := cntA_mem h
  exact upL_vld ht (.inr (hv x hx)) h1
theorem majA_uniq (ht : TrOk l n) (hv : ∀ x ∈ g, (ix l x.2.2).isSome = true) {c c' : Int} (h : majA l g c) (h' : majA l g c') (hl : lvl l c' = lvl l c) : c' = c := by
  have h1 := majA_up ht hv h h' (Nat.le_of_eq hl)
  have hc := majA_vld ht hv (c := c) (by unfold majA at h; omega)
  obtain ⟨⟨m, hm, _⟩, _⟩ := code_lv ht hc
  exact (up_facts ht.len hm h1).2.2.2.1 hl
theorem FinR_uniq (ht : TrOk l n) (hv : ∀ x ∈ g, (ix l x.2.2).isSome = true) {r r' : Cdg} (h : FinR l g r) (h' : FinR l g r') : r = r' := by
  obtain ⟨a, b, c⟩ := r
  obtain ⟨a', b', c'⟩ := r'
  obtain ⟨h1, h2⟩ := h
  obtain ⟨h1', h2'⟩ := h'
  dsimp only at *
  have ha : a = a' := h1.trans h1'.symm
  subst ha
  rcases h2 with ⟨p1, p2⟩ | ⟨p1, p2, p3, p4⟩ | ⟨p1, p2, p3, p4⟩ <;> rcases h2' with ⟨q1, q2⟩ | ⟨q1, q2, q3, q4⟩ | ⟨q1, q2, q3, q4⟩
  · have := majO_uniq p1 q1
    subst this
    rw [p2, q2]
  · exact absurd p1 (q1 _)
  · exact absurd p1 (q1 _)
  · exact absurd q1 (p1 _)
  · have := majA_uniq ht hv q2 p2 (Nat.le_antisymm (q3 _ p2) (p3 _ q2))
    rw [this, p4, q4]
  · exact absurd p2 (q2 _)
  · exact absurd q1 (p1 _)
  · exact absurd q2 (p2 _)
  · rw [p3, p4, q3, q4]
/-- .. as a function. -/
noncomputable def finF (l : List Nod) (g : List Cdg) : Cdg := @dite _ (∃ r, FinR l g r) (Classical.propDecidable _) (fun h => Classical.choose h) (fun _ => cdg0)
theorem finF_eq (ht : TrOk l n) (hv : ∀ x ∈ g, (ix l x.2.2).isSome = true) {r : Cdg} (h : FinR l g r) : finF l g = r := by
  have he : ∃ r, FinR l g r := ⟨r, h⟩
  unfold finF
  rw [dif_pos he]
  exact FinR_uniq ht hv (Classical.choose_spec he) h
/-- How many codes lie at a code or below it. -/
def covN (l : List Nod) (c : Int) : Nat := (l.filter (fun x => decide (c ∈ upL l x.1))).length
theorem filter_lt_of {α : Type} (p q : α → Bool) : ∀ (g : List α), (∀ x ∈ g, p x = true → q x = true) → (∃ x ∈ g, p x = false ∧ q x = true) → (g.filter p).length < (g.filter q).length
  | [], _, h => by obtain ⟨x, hx, _⟩ := h; simp at hx
  | x :: g, hs, ⟨y, hy, h1, h2⟩ => by
    have hle : ∀ (g : List α), (∀ x ∈ g, p x = true → q x = true) → (g.filter p).length ≤ (g.filter q).length := by
      intro g
      induction g with
      | nil => simp
      | cons x g ih =>
        intro h
        have ih := ih (fun y hy => h y (by simp [hy]))
        rw [List.filter_cons, List.filter_cons]
        cases hp : p x
        · cases hq : q x <;> simp <;> omega
        · rw [h x (by simp) hp]; simp; exact ih
    rw [List.filter_cons, List.filter_cons]
    rcases List.mem_cons.1 hy with rfl | hy
    · rw [h1, h2]
      have := hle g (fun z hz => hs z (by simp [hz]))
      simp; omega
    · have ih := filter_lt_of p q g (fun z hz => hs z (by simp [hz])) ⟨y, hy, h1, h2⟩
      cases hp : p x
      · cases hq : q x <;> simp <;> omega
      · rw [hs x (by simp) hp]; simp; exact ih
theorem cov_lt (ht : TrOk l n) {c c' : Int} (hc : (ix l c).isSome = true) (hc' : (ix l c').isSome = true) (h : c ∈ upL l c') (hl : lvl l c < lvl l c') : covN l c' < covN l c := by
  unfold covN
  refine filter_lt_of _ _ _ (fun x hx hp => ?_) ?_
  · simp at hp ⊢
    obtain ⟨i, hi, rfl⟩ := List.getElem_of_mem hx
    have hv : (ix l l[i].1).isSome = true := by
      have := ht.ix_of (i := i) (by rw [← ht.len]; exact hi)
      rw [show cod l i = l[i].1 by unfold cod; rw [getD_elem0 _ _ _ hi]] at this
      rw [this]; rfl
    obtain ⟨⟨m, hm, _⟩, _⟩ := code_lv ht hv
    exact (up_facts ht.len hm hp).2.2.2.2.1 _ h
  · obtain ⟨i, hi, he, _⟩ := ht.up hc
    have hi' : i < l.length := by rw [ht.len]; exact hi
    have hce : l[i].1 = c := by rw [← he]; unfold cod; rw [getD_elem0 _ _ _ hi']
    refine ⟨l[i], List.getElem_mem hi', ?_, ?_⟩
    · rw [hce]
      simp
      intro hin
      obtain ⟨⟨m, hm, _⟩, _⟩ := code_lv ht hc
      have := (up_facts ht.len hm hin).2.2.1
      omega
    · rw [hce]
      simp
      obtain ⟨⟨m, hm, _⟩, h0⟩ := code_lv ht hc
      exact self_mem ht.len hm h0
end
/-- Codings by cases. -/
def grpK (cs : List Cdg) : Nat → List (List Cdg)
  | 0 => []
  | k + 1 => if k = 0 ∨ (cs.getD k cdg0).1 ≠ (cs.getD (k - 1) cdg0).1 then grpK cs k ++ [[cs.getD k cdg0]] else (grpK cs k).dropLast ++ [(grpK cs k).getLastD [] ++ [cs.getD k cdg0]]
theorem grpK_ok (cs : List Cdg) : ∀ k, k ≤ cs.length → (∀ g ∈ grpK cs k, g ≠ [] ∧ g.length ≤ k ∧ ∀ x ∈ g, x ∈ cs) ∧ (grpK cs k).length ≤ k ∧ (0 < k → grpK cs k ≠ [])
  | 0, _ => by simp [grpK]
  | k + 1, hk => by
    obtain ⟨h1, h2, h3⟩ := grpK_ok cs k (by omega)
    have hx : cs.getD k cdg0 ∈ cs := by rw [getD_elem0 _ _ _ (by omega)]; exact List.getElem_mem _
    unfold grpK
    split
    · refine ⟨fun g hg => ?_, by simp; omega, by simp⟩
      rcases List.mem_append.1 hg with hg | hg
      · obtain ⟨a, b, c⟩ := h1 g hg
        exact ⟨a, by omega, c⟩
      · simp at hg; subst hg; exact ⟨by simp, by simp, by simpa using hx⟩
    · next hn =>
      have hk0 : 0 < k := by
        rcases Nat.eq_zero_or_pos k with h | h
        · exact absurd (.inl h) hn
        · exact h
      have hne := h3 hk0
      refine ⟨fun g hg => ?_, by rw [List.length_append, List.length_dropLast, List.length_singleton]; omega, by simp⟩
      rcases List.mem_append.1 hg with hg | hg
      · obtain ⟨a, b, c⟩ := h1 g (List.dropLast_subset _ hg)
        exact ⟨a, by omega, c⟩
      · simp only [List.mem_singleton] at hg
        subst hg
        have hl : (grpK cs k).getLastD [] ∈ grpK cs k := by rw [List.getLastD_eq_getLast?, List.getLast?_eq_some_getLast hne]; exact List.getLast_mem hne
        obtain ⟨a, b, c⟩ := h1 _ hl
        refine ⟨by simp, by rw [List.length_append, List.length_singleton]; omega, fun x hxx => ?_⟩
        rcases List.mem_append.1 hxx with hxx | hxx
        · exact c x hxx
        · simp at hxx; subst hxx; exact hx
noncomputable def fnlF (l : List Nod) (cs : List Cdg) : List Cdg × Int := if frcF l cs ≠ 0 then ([], frcF l cs) else ((grpK cs cs.length).map (finF l), 0)
end Go.Proofs.YtngogjookldidaaDoor

namespace Go.Proofs.YtngogjookldidaaDoor
open Go.RowKit
set_option linter.unusedVariables false
set_option linter.unusedSimpArgs false

theorem slCC : SliceTy Tryd.prog 42 23 (.slice none 0 0) (Rep.size Hdr) 24 := ⟨Tryd.underlying42, by kernel_rfl, rfl, by decide, by decide⟩
/-- The state of cases: the groups so far, the last one the call's own. -/
def CsSt (w0 : World) (φ0 : Phi) (gs : List (List Cdg)) (ao : Option Addr) (co : Nat) (wr : World) : Prop :=
  ∃ (φ : Phi) (hi : List Hdr) (ini : List (List Cdg)) (hs : List Hdr) (al : Option Addr) (cl : Nat) (la : List Cdg), φ0.le φ ∧ (∀ b, b < w0.heap.size → φ b = φ0 b) ∧ Ow2 w0 φ 23 45 ao co hs al cl la wr ∧ HdrL φ hi ini ∧
    ((gs = [] ∧ hs = [] ∧ hi = [] ∧ ini = [] ∧ la = []) ∨ (gs = ini ++ [la] ∧ hs = hi ++ [⟨al, la.length, cl⟩]))
theorem CsSt.start {w0 : World} {φ0 : Phi} (h : Fz φ0 w0) : CsSt w0 φ0 [] none 0 w0 :=
  ⟨φ0, [], [], [], none, 0, [], φ0.le_refl, fun _ _ => rfl, ⟨Inv.start h, Own.nil _ _ _ _, Own.nil _ _ _ _, fun _ _ h => by cases h⟩, trivial, .inl ⟨rfl, rfl, rfl, rfl, rfl⟩⟩
theorem CsSt.callB {w0 wr w' : World} {φ0 : Phi} {gs : List (List Cdg)} {ao : Option Addr} {co : Nat} (h : CsSt w0 φ0 gs ao co wr) (hb : Below wr.heap.size wr w') : CsSt w0 φ0 gs ao co w' := by
  obtain ⟨φ, hi, ini, hs, al, cl, la, h1, h2, h3, h4⟩ := h
  exact ⟨φ, hi, ini, hs, al, cl, la, h1, h2, h3.callB hb, h4⟩
theorem CsSt.fz {w0 wr : World} {φ0 : Phi} {gs : List (List Cdg)} {ao : Option Addr} {co : Nat} (h : CsSt w0 φ0 gs ao co wr) : Fz φ0 wr := by
  obtain ⟨φ, hi, ini, hs, al, cl, la, h1, h2, h3, h4⟩ := h; exact h3.inv.fz.sub h1
theorem CsSt.bel {w0 wr : World} {φ0 : Phi} {gs : List (List Cdg)} {ao : Option Addr} {co : Nat} (h : CsSt w0 φ0 gs ao co wr) : Below w0.heap.size w0 wr := by
  obtain ⟨φ, hi, ini, hs, al, cl, la, h1, h2, h3, h4⟩ := h; exact h3.inv.bel
/-- All groups complete. -/
theorem CsSt.fin {w0 wr : World} {φ0 : Phi} {gs : List (List Cdg)} {ao : Option Addr} {co : Nat} (h : CsSt w0 φ0 gs ao co wr) : ∃ φ', Inv w0.heap.size w0 φ0 φ' wr ∧ SlV φ' ao co gs := by
  obtain ⟨φ, hi, ini, hs, al, cl, la, h1, h2, h3, h4, h5⟩ := h
  obtain ⟨φ1, l1, n1, i1, o1, s1⟩ := h3.rel2
  obtain ⟨φ2, l2, i2, s2, _⟩ := o1.release i1
  refine ⟨φ2, ⟨i2.bel, i2.base, i2.fz, (h1.trans l1).trans l2, fun b hb => (i2.new b hb).trans ((n1 b hb).trans (h2 b hb))⟩, ?_⟩
  rcases h5 with ⟨rfl, rfl, _⟩ | ⟨rfl, rfl⟩
  · exact s2.ofHdr (gs := []) trivial
  · exact s2.ofHdr (HdrL.snoc ⟨s1.mono l2, rfl⟩ ((h4.mono l1).mono l2))
/-- A new group is laid: what the append of a nil header asks and gives. -/
theorem CsSt.open_ {w0 wr : World} {φ0 : Phi} {gs : List (List Cdg)} {ao : Option Addr} {co : Nat} (h : CsSt w0 φ0 gs ao co wr) : ∃ (φ : Phi) (hs : List Hdr), φ0.le φ ∧ (∀ b, b < w0.heap.size → φ b = φ0 b) ∧ hs.length = gs.length ∧ HdrL φ hs gs ∧ Inv w0.heap.size w0 φ φ wr ∧ Own w0.heap.size φ wr 23 ao co hs := by
  obtain ⟨φ, hi, ini, hs, al, cl, la, h1, h2, h3, h4, h5⟩ := h
  obtain ⟨φ1, l1, n1, i1, o1, s1⟩ := h3.rel2
  have hg : HdrL φ1 hs gs := by
    rcases h5 with ⟨rfl, rfl, _⟩ | ⟨rfl, rfl⟩
    · trivial
    · exact HdrL.snoc ⟨s1, rfl⟩ (h4.mono l1)
  exact ⟨φ1, hs, h1.trans l1, fun b hb => (n1 b hb).trans (h2 b hb), hg.len, hg, i1, o1⟩
theorem far {w w' : World} {b o : Nat} (h : w'.heap[b]? = w.heap[b]?) : w'.cell? ⟨b, o, none⟩ = w.cell? ⟨b, o, none⟩ ∧ w'.frozen? ⟨b, o, none⟩ = w.frozen? ⟨b, o, none⟩ := by
  unfold World.cell? World.frozen?
  dsimp only
  rw [h]; exact ⟨rfl, rfl⟩
theorem rowne {a : Option Addr} {g : Nat} (h : ∀ y, a = some y → y.block ≠ g) : some g ≠ a.map (·.block) := by
  cases a with
  | none => simp
  | some y => simpa using (h y rfl).symm
def SlPostL {α : Type} [Rep α] (xs : List α) (φ : Phi) (w : World) (e : Ending) (w' : World) : Prop :=
  ∃ a cap φ', e = .returned (.slice a xs.length cap) ∧ Inv w.heap.size w φ φ' w' ∧ SlV φ' a cap xs
set_option maxRecDepth 100000 in
set_option maxHeartbeats 2000000 in
theorem cases_any {w : World} {ac : Option Addr} {cc nc : Nat} {cs : List Cdg} {φ : Phi} (hφ : Fz φ w) (sc : SlV φ ac cc cs) (hnc : Hid (cs.length = nc)) (hn2 : nc ≤ 20000) :
    Calls Tryd.prog 11 #[.slice ac nc cc] w (SlPostL (grpK cs nc) φ w) := by
  have hSt : Hid (CsSt w φ (grpK cs 0) none 0 w) := Lib.hid (CsSt.start hφ)
  go_enter Tryd.func11, Tryd.ntmps11
  go_wp2
  go_loopw [3, 8] (fun o i wr => ∃ (k ng : Nat) (ao : Option Addr) (co : Nat), k ≤ nc ∧ i = .int .i64 k ∧ o = .slice ao ng co ∧ Hid ((grpK cs k).length = ng) ∧ Hid (CsSt w φ (grpK cs k) ao co wr)) (fun _ i _ => nc - (intOf i).toNat)
  case atStart => exact ⟨0, 0, none, 0, Nat.zero_le _, rfl, rfl, Lib.hid rfl, hSt⟩
  case round =>
    clear hSt
    obtain ⟨k, ng, ao, co, hk, rfl, rfl, hng, hSt⟩ := hrel
    by_cases hlt : k < nc
    · obtain ⟨b, off, rfl, f⟩ := sc.cdgD hnc hlt
      obtain ⟨hb, d1, d2, d3⟩ := f k hlt wr hSt.out.fz
      have HP := Lib.hid (fun h : 0 < k => (f (k - 1) (by omega) wr hSt.out.fz).2.1)
      have hgk : Hid (grpK cs (k + 1) = if k = 0 ∨ (cs.getD k cdg0).1 ≠ (cs.getD (k - 1) cdg0).1 then grpK cs k ++ [[cs.getD k cdg0]] else (grpK cs k).dropLast ++ [(grpK cs k).getLastD [] ++ [cs.getD k cdg0]]) := Lib.hid rfl
      have hgo := Lib.hid (grpK_ok cs k (by rw [hnc.out]; omega))
      have hngk : ng ≤ 20000 := by have := hgo.out.2.1; rw [hng.out] at this; omega
      clear f
      generalize (cs.getD (k - 1) cdg0).1 = y1 at *
      generalize hX : cs.getD k cdg0 = X at *
      obtain ⟨x1, x2, x3⟩ := X
      replace hX := Lib.hid hX
      dsimp only at d1 d2 d3
      have hB0 := Lib.hid (Blk.new wr #[.int .i64 x1, .int .i64 x2, .int .i64 x3] 45)
      have hbx0 := Lib.hid (box_at (w := wr) (cs := #[.int .i64 x1, .int .i64 x2, .int .i64 x3]) (T := 45) 0)
      by_cases hnew : k = 0 ∨ x1 ≠ y1
      · have hg1 : Hid (grpK cs (k + 1) = grpK cs k ++ [[(x1, x2, x3)]]) := Lib.hid (by rw [hgk.out, if_pos hnew])
        obtain ⟨φ1, hs, hle1, hnw1, hhl, hhd1, hi1, ho1⟩ := (hSt.out.callB ((Below.refl _ _).alloc (Nat.le_refl _) (.cells #[.int .i64 x1, .int .i64 x2, .int .i64 x3] 45))).open_
        have hao : Hid (∀ x, ao = some x → x.block < wr.heap.size) := Lib.hid (by obtain ⟨_, _, _, _, _, _, _, _, _, hs, _⟩ := hSt.out; exact fun x hx => (hs.o1.lt x hx).2)
        have HI1 := Lib.hid hi1
        have HO1 := Lib.hid ho1
        have HLE := Lib.hid hle1
        have HNW := Lib.hid hnw1
        have HHD := Lib.hid hhd1
        have hhl2 : Hid (hs.length = ng) := Lib.hid (hhl.trans hng.out)
        clear hi1 ho1 hle1 hnw1 hhd1 hhl hSt
        by_cases h0 : k = 0
        · have h0i : ((k : Int) == 0) = true := by simp [h0]
          have H0 := Lib.hid h0
          clear h0 hnew
          go_wp2
          go_quiet (fail)
          have hinq := HI1.out.drewN nq
          have honq := HO1.out.drewN nq
          have hBq : Hid (Blk ((wr.alloc (.cells #[.int .i64 x1, .int .i64 x2, .int .i64 x3] 45)).drewN nq) wr.heap.size #[.int .i64 x1, .int .i64 x2, .int .i64 x3] 45) := Lib.hid hB0.out
          clear HI1 HO1 d1 d2 d3 hb 
          generalize (wr.alloc (.cells #[.int .i64 x1, .int .i64 x2, .int .i64 x3] 45)).drewN nq = wj at *
          generalize wr.heap.size = bx at *
          rw [← hhl2.out]
          have hhl3 : hs.length ≤ 20000 := by rw [hhl2.out]; omega
          go_wp2_with (at_builtin; (refine wpList_app1F (α := Hdr) rfl _ _ 42 rfl slCC hinq ao co _ honq _ _ hdr0 rfl rfl 1 rfl (by omega) ?_); intro a2 c2 w4 hi4 ho4 hg4 hf4)
          obtain ⟨nh, hnh⟩ : ∃ nh, hs.length = nh := ⟨_, rfl⟩
          obtain ⟨N, hN⟩ : ∃ N, N = nh + 1 := ⟨_, rfl⟩
          have hl6 : Hid ((hs ++ [hdr0]).length = N) := Lib.hid (by simp [hnh, hN])
          have hhd : Hid ((hs ++ [hdr0]).getD nh hdr0 = hdr0) := Lib.hid (by rw [← hnh]; simp)
          have hS6 : Hid (Ow2 w φ1 23 45 a2 c2 (hs ++ [hdr0]) none 0 ([] : List Cdg) w4) := Lib.hid ⟨hi4, ho4, Own.nil _ _ _ _, fun _ _ _ h => by cases h⟩
          have hBj : Hid (Blk w4 bx #[.int .i64 x1, .int .i64 x2, .int .i64 x3] 45) := Lib.hid ((hg4.block bx (by have := hBq.out.lt; simp; omega) (fun e => by
            cases ao with
            | none => cases e
            | some z => have := hao.out z rfl; simp at e; omega)).trans (hBq.out.alloc _))
          have hnh2 := Lib.hid hnh
          rw [hnh] at hhl3
          rw [show hs.length + 1 = N by rw [hnh, hN]]
          clear hi4 ho4 hg4 hf4 hinq honq hBq hnh
          have HN := Lib.hid hN
          obtain ⟨g, hga, hgB, hgl, hgf, hgc, hgz, _⟩ := hS6.out.o1.hdrD hl6 (k := nh) (by omega)
          subst hga
          have hb0 : w4.cell? ⟨bx, 0, none⟩ = some (.int .i64 x1) := hBj.out.cell 0
          have hb1 : w4.cell? ⟨bx, 1, none⟩ = some (.int .i64 x2) := hBj.out.cell 1
          have hb2 : w4.cell? ⟨bx, 2, none⟩ = some (.int .i64 x3) := hBj.out.cell 2
          have hblt := hBj.out.lt
          have hw1 : IntKind.i64.wrap ((N : Int) - 1) = nh := by rw [IntWalk.i64_in _ (by omega)]; omega
          have hi1 : (nh : Int) < (N : Int) := by omega
          have hi2 : (0 : Int) ≤ (nh : Int) := by omega
          rw [hhd.out] at hgc
          dsimp only at hgc
          clear hN
          have hlg : Hid ((∀ y, (none : Option Addr) = some y → y.block ≠ g ∧ y.block ≠ bx)) := Lib.hid (fun y hy => ⟨fun e => hS6.out.ne _ y rfl hy e.symm, (by cases hy)⟩)
          have hfz : ∀ o, (w4.alloc o).frozen? ⟨g, nh, none⟩ = false := fun o => (((Below.refl _ _).alloc (Nat.le_refl _) o).frozen (p := ⟨g, nh, none⟩) hgl).trans hgz
          have hfd : ∀ o, (w4.alloc o).drew.frozen? ⟨g, nh, none⟩ = false := hfz
          go_region_law ((refine step_appF (α := Cdg) (by rfl) _ _ _ (by rfl) slC (hS6.out.alloc _).inv.drew (none : Option Addr) 0 _ (by rfl) (hS6.out.alloc _).o2.drew ⟨w4.heap.size, 0, none⟩ 1 [(x1, x2, x3)] [.int .i64 x1, .int .i64 x2, .int .i64 x3] 1 (by rfl) (by rfl) (RepL.single ⟨[.int .i64 x1], [.int .i64 x2, .int .i64 x3], rfl, rfl, [.int .i64 x2], [.int .i64 x3], rfl, rfl, rfl⟩) (World.news_of_block (cs := #[.int .i64 x1, .int .i64 x2, .int .i64 x3]) (t := 45) (fr := (0, 0)) (heap_alloc_new w4 _)) (by show (([] : List Cdg).length + 1) * 24 ≤ 140737488355328; (try simp only [List.length_nil]); omega) ?_; intro a3 c3 w5 hi5 ho5 hg5 hf5; have hS7 := (((hS6.out.alloc (.cells #[.int .i64 x1, .int .i64 x2, .int .i64 x3] 45)).drewN 1).swap.step1 hi5 ho5 hg5 hf5).swap; have HS7 := Lib.hid hS7; have kg := far (o := nh) (hg5.block g (by simp; omega) (rowne (fun y hy => (hlg.out y hy).1))); have kb := fun o => far (o := o) (hg5.block bx (by simp; omega) (rowne (fun y hy => (hlg.out y hy).2))); have k0 : w5.cell? ⟨g, nh, none⟩ = some (.slice (none : Option Addr) ([] : List Cdg).length 0) := kg.1.trans (((Below.refl _ _).alloc (Nat.le_refl _) _).cell (p := ⟨g, nh, none⟩) hgl |>.trans hgc); have k1 : w5.frozen? ⟨g, nh, none⟩ = false := kg.2.trans (((Below.refl _ _).alloc (Nat.le_refl _) _).frozen (p := ⟨g, nh, none⟩) hgl |>.trans hgz); have k2 : w5.cell? ⟨bx, 0, none⟩ = some (.int .i64 x1) := (kb 0).1.trans (((Below.refl _ _).alloc (Nat.le_refl _) _).cell (p := ⟨bx, 0, none⟩) hblt |>.trans hb0); have k3 : w5.cell? ⟨bx, 1, none⟩ = some (.int .i64 x2) := (kb 1).1.trans (((Below.refl _ _).alloc (Nat.le_refl _) _).cell (p := ⟨bx, 1, none⟩) hblt |>.trans hb1); have k4 : w5.cell? ⟨bx, 2, none⟩ = some (.int .i64 x3) := (kb 2).1.trans (((Below.refl _ _).alloc (Nat.le_refl _) _).cell (p := ⟨bx, 2, none⟩) hblt |>.trans hb2); clear hS7 hi5 ho5 hg5 hf5 kg kb))
          clear hw1 hfz hfd
          all_goals
            obtain ⟨g', hga', hgB', hgl', hgf', hgc', hgz', hset⟩ := HS7.out.o1.hdrD hl6 (k := nh) (by have := HN.out; omega)
            cases hga'
            have hfin := Lib.hid (hset ⟨a3, ([] : List Cdg).length + 1, c3⟩ w φ1 HS7.out.inv)
            clear hset
            have hS8 := Lib.hid (HS7.out.put1 hfin.out.1 hfin.out.2)
            go_wp2
            go_roundw
            case rel =>
              refine ⟨k + 1, N, _, c2, by omega, by go_num, rfl, Lib.hid (by rw [hg1.out, List.length_append, hng.out, ← hhl2.out, hnh2.out, HN.out]; rfl), Lib.hid ⟨φ1, hs, grpK cs k, _, a3, c3, [(x1, x2, x3)], HLE.out, HNW.out, hS8.out, HHD.out, .inr ⟨hg1.out, ?_⟩⟩⟩
              rw [← hnh2.out]; simp
            case measure => (simp [intOf] <;> omega)
        · have h0i : ((k : Int) == 0) = false := by simp [h0]
          have hne : (x1 != y1) = true := by have := hnew.resolve_left h0; simpa using this
          have hpp := HP.out (by omega)
          have hpp' : (wr.alloc (.cells #[.int .i64 x1, .int .i64 x2, .int .i64 x3] 45)).cell? ⟨b, off + (k - 1) * 3, none⟩ = some (.int .i64 y1) := (((Below.refl wr.heap.size wr).alloc (Nat.le_refl _) _).cell (p := ⟨b, off + (k - 1) * 3, none⟩) hb).trans hpp
          have hb0' : (wr.alloc (.cells #[.int .i64 x1, .int .i64 x2, .int .i64 x3] 45)).cell? ⟨wr.heap.size, 0, none⟩ = some (.int .i64 x1) := box_at 0
          have hix : 0 ≤ (k : Int) - 1 := by omega
          have hix2 : (k : Int) - 1 < nc := by omega
          have hw0 : IntKind.i64.wrap ((k : Int) - 1) = k - 1 := IntWalk.i64_in _ (by omega)
          have hto : ((k : Int) - 1).toNat = k - 1 := by omega
          clear hnew
          go_wp2
          go_quiet (fail)
          have hinq := HI1.out.drewN nq
          have honq := HO1.out.drewN nq
          have hBq : Hid (Blk ((wr.alloc (.cells #[.int .i64 x1, .int .i64 x2, .int .i64 x3] 45)).drewN nq) wr.heap.size #[.int .i64 x1, .int .i64 x2, .int .i64 x3] 45) := Lib.hid hB0.out
          clear HI1 HO1 d1 d2 d3 hb hpp hpp' hb0' hw0 hto
          generalize (wr.alloc (.cells #[.int .i64 x1, .int .i64 x2, .int .i64 x3] 45)).drewN nq = wj at *
          generalize wr.heap.size = bx at *
          rw [← hhl2.out]
          have hhl3 : hs.length ≤ 20000 := by rw [hhl2.out]; omega
          go_wp2_with (at_builtin; (refine wpList_app1F (α := Hdr) rfl _ _ 42 rfl slCC hinq ao co _ honq _ _ hdr0 rfl rfl 1 rfl (by omega) ?_); intro a2 c2 w4 hi4 ho4 hg4 hf4)
          obtain ⟨nh, hnh⟩ : ∃ nh, hs.length = nh := ⟨_, rfl⟩
          obtain ⟨N, hN⟩ : ∃ N, N = nh + 1 := ⟨_, rfl⟩
          have hl6 : Hid ((hs ++ [hdr0]).length = N) := Lib.hid (by simp [hnh, hN])
          have hhd : Hid ((hs ++ [hdr0]).getD nh hdr0 = hdr0) := Lib.hid (by rw [← hnh]; simp)
          have hS6 : Hid (Ow2 w φ1 23 45 a2 c2 (hs ++ [hdr0]) none 0 ([] : List Cdg) w4) := Lib.hid ⟨hi4, ho4, Own.nil _ _ _ _, fun _ _ _ h => by cases h⟩
          have hBj : Hid (Blk w4 bx #[.int .i64 x1, .int .i64 x2, .int .i64 x3] 45) := Lib.hid ((hg4.block bx (by have := hBq.out.lt; simp; omega) (fun e => by
            cases ao with
            | none => cases e
            | some z => have := hao.out z rfl; simp at e; omega)).trans (hBq.out.alloc _))
          have hnh2 := Lib.hid hnh
          rw [hnh] at hhl3
          rw [show hs.length + 1 = N by rw [hnh, hN]]
          clear hi4 ho4 hg4 hf4 hinq honq hBq hnh
          have HN := Lib.hid hN
          obtain ⟨g, hga, hgB, hgl, hgf, hgc, hgz, _⟩ := hS6.out.o1.hdrD hl6 (k := nh) (by omega)
          subst hga
          have hb0 : w4.cell? ⟨bx, 0, none⟩ = some (.int .i64 x1) := hBj.out.cell 0
          have hb1 : w4.cell? ⟨bx, 1, none⟩ = some (.int .i64 x2) := hBj.out.cell 1
          have hb2 : w4.cell? ⟨bx, 2, none⟩ = some (.int .i64 x3) := hBj.out.cell 2
          have hblt := hBj.out.lt
          have hw1 : IntKind.i64.wrap ((N : Int) - 1) = nh := by rw [IntWalk.i64_in _ (by omega)]; omega
          have hi1 : (nh : Int) < (N : Int) := by omega
          have hi2 : (0 : Int) ≤ (nh : Int) := by omega
          rw [hhd.out] at hgc
          dsimp only at hgc
          clear hN
          have hlg : Hid ((∀ y, (none : Option Addr) = some y → y.block ≠ g ∧ y.block ≠ bx)) := Lib.hid (fun y hy => ⟨fun e => hS6.out.ne _ y rfl hy e.symm, (by cases hy)⟩)
          have hfz : ∀ o, (w4.alloc o).frozen? ⟨g, nh, none⟩ = false := fun o => (((Below.refl _ _).alloc (Nat.le_refl _) o).frozen (p := ⟨g, nh, none⟩) hgl).trans hgz
          have hfd : ∀ o, (w4.alloc o).drew.frozen? ⟨g, nh, none⟩ = false := hfz
          go_region_law ((refine step_appF (α := Cdg) (by rfl) _ _ _ (by rfl) slC (hS6.out.alloc _).inv.drew (none : Option Addr) 0 _ (by rfl) (hS6.out.alloc _).o2.drew ⟨w4.heap.size, 0, none⟩ 1 [(x1, x2, x3)] [.int .i64 x1, .int .i64 x2, .int .i64 x3] 1 (by rfl) (by rfl) (RepL.single ⟨[.int .i64 x1], [.int .i64 x2, .int .i64 x3], rfl, rfl, [.int .i64 x2], [.int .i64 x3], rfl, rfl, rfl⟩) (World.news_of_block (cs := #[.int .i64 x1, .int .i64 x2, .int .i64 x3]) (t := 45) (fr := (0, 0)) (heap_alloc_new w4 _)) (by show (([] : List Cdg).length + 1) * 24 ≤ 140737488355328; (try simp only [List.length_nil]); omega) ?_; intro a3 c3 w5 hi5 ho5 hg5 hf5; have hS7 := (((hS6.out.alloc (.cells #[.int .i64 x1, .int .i64 x2, .int .i64 x3] 45)).drewN 1).swap.step1 hi5 ho5 hg5 hf5).swap; have HS7 := Lib.hid hS7; have kg := far (o := nh) (hg5.block g (by simp; omega) (rowne (fun y hy => (hlg.out y hy).1))); have kb := fun o => far (o := o) (hg5.block bx (by simp; omega) (rowne (fun y hy => (hlg.out y hy).2))); have k0 : w5.cell? ⟨g, nh, none⟩ = some (.slice (none : Option Addr) ([] : List Cdg).length 0) := kg.1.trans (((Below.refl _ _).alloc (Nat.le_refl _) _).cell (p := ⟨g, nh, none⟩) hgl |>.trans hgc); have k1 : w5.frozen? ⟨g, nh, none⟩ = false := kg.2.trans (((Below.refl _ _).alloc (Nat.le_refl _) _).frozen (p := ⟨g, nh, none⟩) hgl |>.trans hgz); have k2 : w5.cell? ⟨bx, 0, none⟩ = some (.int .i64 x1) := (kb 0).1.trans (((Below.refl _ _).alloc (Nat.le_refl _) _).cell (p := ⟨bx, 0, none⟩) hblt |>.trans hb0); have k3 : w5.cell? ⟨bx, 1, none⟩ = some (.int .i64 x2) := (kb 1).1.trans (((Below.refl _ _).alloc (Nat.le_refl _) _).cell (p := ⟨bx, 1, none⟩) hblt |>.trans hb1); have k4 : w5.cell? ⟨bx, 2, none⟩ = some (.int .i64 x3) := (kb 2).1.trans (((Below.refl _ _).alloc (Nat.le_refl _) _).cell (p := ⟨bx, 2, none⟩) hblt |>.trans hb2); clear hS7 hi5 ho5 hg5 hf5 kg kb))
          clear hw1 hfz hfd
          all_goals
            obtain ⟨g', hga', hgB', hgl', hgf', hgc', hgz', hset⟩ := HS7.out.o1.hdrD hl6 (k := nh) (by have := HN.out; omega)
            cases hga'
            have hfin := Lib.hid (hset ⟨a3, ([] : List Cdg).length + 1, c3⟩ w φ1 HS7.out.inv)
            clear hset
            have hS8 := Lib.hid (HS7.out.put1 hfin.out.1 hfin.out.2)
            go_wp2
            go_roundw
            case rel =>
              refine ⟨k + 1, N, _, c2, by omega, by go_num, rfl, Lib.hid (by rw [hg1.out, List.length_append, hng.out, ← hhl2.out, hnh2.out, HN.out]; rfl), Lib.hid ⟨φ1, hs, grpK cs k, _, a3, c3, [(x1, x2, x3)], HLE.out, HNW.out, hS8.out, HHD.out, .inr ⟨hg1.out, ?_⟩⟩⟩
              rw [← hnh2.out]; simp
            case measure => (simp [intOf] <;> omega)
      · have hg1 : Hid (grpK cs (k + 1) = (grpK cs k).dropLast ++ [(grpK cs k).getLastD [] ++ [(x1, x2, x3)]]) := Lib.hid (by rw [hgk.out, if_neg hnew])
        have hk0 : 0 < k := by omega
        have h0i : ((k : Int) == 0) = false := by simp; omega
        have hne : (x1 != y1) = false := by
          have : x1 = y1 := Classical.not_not.1 (fun h => hnew (.inr h))
          simp [this]
        have hpp := HP.out hk0
        have hpp' : (wr.alloc (.cells #[.int .i64 x1, .int .i64 x2, .int .i64 x3] 45)).cell? ⟨b, off + (k - 1) * 3, none⟩ = some (.int .i64 y1) := (((Below.refl wr.heap.size wr).alloc (Nat.le_refl _) _).cell (p := ⟨b, off + (k - 1) * 3, none⟩) hb).trans hpp
        have hb0' : (wr.alloc (.cells #[.int .i64 x1, .int .i64 x2, .int .i64 x3] 45)).cell? ⟨wr.heap.size, 0, none⟩ = some (.int .i64 x1) := box_at 0
        have hix : 0 ≤ (k : Int) - 1 := by omega
        have hix2 : (k : Int) - 1 < nc := by omega
        have hw0 : IntKind.i64.wrap ((k : Int) - 1) = k - 1 := IntWalk.i64_in _ (by omega)
        have hto : ((k : Int) - 1).toNat = k - 1 := by omega
        clear hnew
        go_wp2
        go_quiet (fail)
        go_wp2
        clear hw0 hto hpp hpp' hb0'
        have hSx := hSt.out
        obtain ⟨φ1, hi, ini, hs, al, cl, la, hle1, hnw1, hS, hhd1, ⟨hgz, _⟩ | ⟨hgs, hhs⟩⟩ := hSx
        · exact absurd hgz (hgo.out.2.2 hk0)
        have hal : Hid (∀ y, al = some y → y.block < wr.heap.size) := Lib.hid (fun y hy => (hS.o2.lt y hy).2)
        have hlast : Hid ((grpK cs k).getLastD [] = la ∧ (grpK cs k).dropLast = ini) := Lib.hid (by rw [hgs]; simp)
        have hla : la.length ≤ 20000 := by have := (hgo.out.1 la (by rw [hgs]; simp)).2.1; omega
        obtain ⟨nh, rfl⟩ : ∃ nh, ng = nh + 1 := ⟨ng - 1, by have := hng.out; rw [hgs] at this; simp at this; omega⟩
        have hnhi : hi.length = nh := by have := hng.out; rw [hgs] at this; simp at this; rw [hhd1.len]; omega
        obtain ⟨N, hN⟩ : ∃ N, nh + 1 = N := ⟨_, rfl⟩
        rw [hN]
        have hl6 : Hid (hs.length = N) := Lib.hid (by rw [hhs]; simp [hnhi, hN])
        have HN := Lib.hid hN
        have hhd : Hid (hs.getD nh hdr0 = ⟨al, la.length, cl⟩) := Lib.hid (by rw [hhs, ← hnhi]; simp)
        have hS6 : Hid (Ow2 w φ1 23 45 ao co hs al cl la ((wr.alloc (.cells #[.int .i64 x1, .int .i64 x2, .int .i64 x3] 45)).drewN nq)) := Lib.hid ((hS.alloc _).drewN nq)
        have hBj : Hid (Blk ((wr.alloc (.cells #[.int .i64 x1, .int .i64 x2, .int .i64 x3] 45)).drewN nq) wr.heap.size #[.int .i64 x1, .int .i64 x2, .int .i64 x3] 45) := Lib.hid hB0.out
        have HHS := Lib.hid (And.intro hhs (And.intro hgs hnhi))
        have HLE := Lib.hid hle1
        have HNW := Lib.hid hnw1
        have HHD := Lib.hid hhd1
        clear hS hhs hgs hnhi hle1 hnw1 hhd1 hSt d1 d2 d3 hb
        generalize (wr.alloc (.cells #[.int .i64 x1, .int .i64 x2, .int .i64 x3] 45)).drewN nq = wj at *
        generalize wr.heap.size = bx at *
        obtain ⟨g, hga, hgB, hgl, hgf, hgc, hgz, _⟩ := hS6.out.o1.hdrD hl6 (k := nh) (by omega)
        subst hga
        have hb0 : wj.cell? ⟨bx, 0, none⟩ = some (.int .i64 x1) := hBj.out.cell 0
        have hb1 : wj.cell? ⟨bx, 1, none⟩ = some (.int .i64 x2) := hBj.out.cell 1
        have hb2 : wj.cell? ⟨bx, 2, none⟩ = some (.int .i64 x3) := hBj.out.cell 2
        have hblt := hBj.out.lt
        have hw1 : IntKind.i64.wrap ((N : Int) - 1) = nh := by rw [IntWalk.i64_in _ (by omega)]; omega
        have hi1 : (nh : Int) < (N : Int) := by omega
        have hi2 : (0 : Int) ≤ (nh : Int) := by omega
        rw [hhd.out] at hgc
        dsimp only at hgc
        clear hN
        have hlg : Hid ((∀ y, al = some y → y.block ≠ g ∧ y.block ≠ bx)) := Lib.hid (fun y hy => ⟨fun e => hS6.out.ne _ y rfl hy e.symm, by have := hal.out y hy; omega⟩)
        have hfz : ∀ o, (wj.alloc o).frozen? ⟨g, nh, none⟩ = false := fun o => (((Below.refl _ _).alloc (Nat.le_refl _) o).frozen (p := ⟨g, nh, none⟩) hgl).trans hgz
        have hfd : ∀ o, (wj.alloc o).drew.frozen? ⟨g, nh, none⟩ = false := hfz
        go_region_law ((refine step_appF (α := Cdg) (by rfl) _ _ _ (by rfl) slC (hS6.out.alloc _).inv.drew al cl _ (by rfl) (hS6.out.alloc _).o2.drew ⟨wj.heap.size, 0, none⟩ 1 [(x1, x2, x3)] [.int .i64 x1, .int .i64 x2, .int .i64 x3] 1 (by rfl) (by rfl) (RepL.single ⟨[.int .i64 x1], [.int .i64 x2, .int .i64 x3], rfl, rfl, [.int .i64 x2], [.int .i64 x3], rfl, rfl, rfl⟩) (World.news_of_block (cs := #[.int .i64 x1, .int .i64 x2, .int .i64 x3]) (t := 45) (fr := (0, 0)) (heap_alloc_new wj _)) (by show (la.length + 1) * 24 ≤ 140737488355328; (try simp only [List.length_nil]); omega) ?_; intro a3 c3 w5 hi5 ho5 hg5 hf5; have hS7 := (((hS6.out.alloc (.cells #[.int .i64 x1, .int .i64 x2, .int .i64 x3] 45)).drewN 1).swap.step1 hi5 ho5 hg5 hf5).swap; have HS7 := Lib.hid hS7; have kg := far (o := nh) (hg5.block g (by simp; omega) (rowne (fun y hy => (hlg.out y hy).1))); have kb := fun o => far (o := o) (hg5.block bx (by simp; omega) (rowne (fun y hy => (hlg.out y hy).2))); have k0 : w5.cell? ⟨g, nh, none⟩ = some (.slice al la.length cl) := kg.1.trans (((Below.refl _ _).alloc (Nat.le_refl _) _).cell (p := ⟨g, nh, none⟩) hgl |>.trans hgc); have k1 : w5.frozen? ⟨g, nh, none⟩ = false := kg.2.trans (((Below.refl _ _).alloc (Nat.le_refl _) _).frozen (p := ⟨g, nh, none⟩) hgl |>.trans hgz); have k2 : w5.cell? ⟨bx, 0, none⟩ = some (.int .i64 x1) := (kb 0).1.trans (((Below.refl _ _).alloc (Nat.le_refl _) _).cell (p := ⟨bx, 0, none⟩) hblt |>.trans hb0); have k3 : w5.cell? ⟨bx, 1, none⟩ = some (.int .i64 x2) := (kb 1).1.trans (((Below.refl _ _).alloc (Nat.le_refl _) _).cell (p := ⟨bx, 1, none⟩) hblt |>.trans hb1); have k4 : w5.cell? ⟨bx, 2, none⟩ = some (.int .i64 x3) := (kb 2).1.trans (((Below.refl _ _).alloc (Nat.le_refl _) _).cell (p := ⟨bx, 2, none⟩) hblt |>.trans hb2); clear hS7 hi5 ho5 hg5 hf5 kg kb))
        clear hw1 hfz hfd
        all_goals
          obtain ⟨g', hga', hgB', hgl', hgf', hgc', hgz', hset⟩ := HS7.out.o1.hdrD hl6 (k := nh) (by have := HN.out; omega)
          cases hga'
          have hfin := Lib.hid (hset ⟨a3, la.length + 1, c3⟩ w φ1 HS7.out.inv)
          clear hset
          have hS8 := Lib.hid (HS7.out.put1 hfin.out.1 hfin.out.2)
          go_wp2
          go_roundw
          case rel =>
            refine ⟨k + 1, N, _, co, by omega, by go_num, rfl, Lib.hid ?_, Lib.hid ⟨φ1, hi, ini, _, a3, c3, la ++ [(x1, x2, x3)], HLE.out, HNW.out, hS8.out, HHD.out, .inr ⟨?_, ?_⟩⟩⟩
            · rw [hg1.out, hlast.out.2]; have := HHS.out.2.2; rw [HHD.out.len] at this; have := HN.out; simp; omega
            · rw [hg1.out, hlast.out.1, hlast.out.2]
            · rw [HHS.out.1, ← HHS.out.2.2]; simp
          case measure => (simp [intOf] <;> omega)
    · obtain rfl : k = nc := by omega
      go_wp2
      go_ret
      obtain ⟨φ', h1, h2⟩ := hSt.out.fin
      rw [← hng.out]
      exact ⟨ao, co, φ', rfl, h1, h2⟩
end Go.Proofs.YtngogjookldidaaDoor

namespace Go.Proofs.YtngogjookldidaaDoor
open Go.RowKit
set_option linter.unusedVariables false
set_option linter.unusedSimpArgs false

/-- Block r goes over the map of block b, which answers as f; the keys of S have been met. -/
def RngF (w : World) (b r : Nat) (f : Int → Option Int) (S : List Int) : Prop := ∃ M, RngW vI w b r M S ∧ ∀ k, mget M k = f k
section
variable {w w' : World} {b r : Nat} {f : Int → Option Int} {S : List Int}
theorem RngF.lt (h : RngF w b r f S) : b < w.heap.size ∧ r < w.heap.size ∧ r ≠ b := by obtain ⟨M, h, _⟩ := h; exact h.lt
theorem RngF.kept (h : RngF w b r f S) (hb : w'.heap[b]? = w.heap[b]?) (hr : w'.heap[r]? = w.heap[r]?) : RngF w' b r f S := by obtain ⟨M, h, e⟩ := h; exact ⟨M, h.kept hb hr, e⟩
theorem RngF.callB (h : RngF w b r f S) (hb : Below w.heap.size w w') : RngF w' b r f S := by obtain ⟨M, h, e⟩ := h; exact ⟨M, h.callB hb, e⟩
theorem RngF.drewN (h : RngF w b r f S) (q : Nat) : RngF (w.drewN q) b r f S := h.callB (bdrewN (Below.refl _ _) q)
theorem RngF.set (h : RngF w b r f S) {g off : Nat} (hb : b ≠ g) (hr : r ≠ g) (u : Value) : RngF (w.setCell ⟨g, off, none⟩ u) b r f S := h.kept (Below.heap_setCell _ _ _ _ hb) (Below.heap_setCell _ _ _ _ hr)
theorem RngF.map (h : RngF w b r f S) : MapW w b f := by
  obtain ⟨M, ⟨es, clock, since, seen, c0, hb, hm, _⟩, e⟩ := h
  exact ⟨_, M, hb, hm, e⟩
variable {ops : Array Oper} {rest : List Oper} {o : Oper} {a : Act} {Q : Exit → Act → World → Prop}
theorem wpList_range_F (hg : o.guard = none) (m : Operand) (hop : o.op = Op.range 31 m) (hm : a.eval m = .map (some b)) (h : MapW w b f)
    (hK : ∀ w', RngF w' b w.heap.size f [] → Below w.heap.size w w' → w'.heap.size = w.heap.size + 1 → wpList Tryd.prog ops Q rest (a.put o.dst (.pointer (some ⟨w.heap.size, 0, none⟩))) w') : wpList Tryd.prog ops Q (o :: rest) a w := by
  refine wpList_plain hg fun K' hK' => ?_
  obtain ⟨ob, M, h1, h2, h3⟩ := h
  obtain ⟨o', hrun, hr⟩ := RngW.start (P := Tryd.prog) Tryd.underlying31 h1 h2
  unfold Oper.wp
  simp [execOp, hop, hm, hrun, Result.andThen]
  exact hK' _ _ (hK _ ⟨M, hr, h3⟩ ((Below.refl _ _).alloc (Nat.le_refl _) _) (by simp))
theorem wpList_next_F (hg : o.guard = none) (it : Operand) (hop : o.op = Op.next it false) (hit : a.eval it = .pointer (some ⟨r, 0, none⟩)) (h : RngF w b r f S)
    (hDone : (∀ k x, f k = some x → k ∈ S) → wpList Tryd.prog ops Q rest (a.put o.dst (.tuple #[.bool false])) w)
    (hMore : ∀ (k x : Int) (w' : World), f k = some x → k ∉ S → RngF w' b r f (k :: S) → w.grownBy w' (some r) → w'.heap.size = w.heap.size → w'.rangeLeft b r < w.rangeLeft b r → (Instr.entry (.pointer (some ⟨r, 0, none⟩))).run Tryd.prog w' = .ok (.tuple #[.int .i64 k, .int .i64 x]) w' →
      wpList Tryd.prog ops Q rest (a.put o.dst (.tuple #[.bool true, .int .i64 k, .int .i64 x])) w') : wpList Tryd.prog ops Q (o :: rest) a w := by
  refine wpList_plain hg fun K' hK' => ?_
  obtain ⟨M, h, e⟩ := h
  have hnd : (M.map (·.1)).Nodup := by obtain ⟨es, clock, since, seen, c0, hb, hm, _⟩ := h; exact hm.nodup
  unfold Oper.wp
  rcases h.next (P := Tryd.prog) o.type with ⟨h0, hrun⟩ | ⟨k, x, v, w', h1, h2, h3, hrun, h4, h5, h6, h7, h8⟩
  · simp [execOp, hop, hit, hrun, Result.andThen]
    exact hK' _ _ (hDone fun k x hk => h0 k x (mem_of_mget (by rw [e]; exact hk)))
  · cases h3
    simp [execOp, hop, hit, hrun, Result.andThen]
    exact hK' _ _ (hMore k x w' (by rw [← e]; exact mget_of_mem hnd h1) h2 ⟨M, h4, e⟩ h5 h6 h7 h8)
end
/-- Counts as what a map answers. -/
def cnF (n : Nat) : Option Int := if n = 0 then none else some (n : Int)
theorem cnF_getD (n : Nat) : (cnF n).getD 0 = n := by unfold cnF; split <;> simp_all
theorem cnF_some {n : Nat} {x : Int} (h : cnF n = some x) : 0 < n ∧ x = n := by unfold cnF at h; split at h; cases h; cases h; exact ⟨by omega, rfl⟩
theorem cnF_succ (n : Nat) : cnF (n + 1) = some ((n : Int) + 1) := by unfold cnF; rw [if_neg (by omega)]; simp
def ownF (g : List Cdg) : Int → Option Int := fun c => cnF (cntO g c)
def abF (l : List Nod) (g : List Cdg) (x : Int) (j : Nat) : Int → Option Int := fun c => cnF (cntA l g c + if c ∈ (upL l x).take j then 1 else 0)
theorem ownF_step (g : List Cdg) (x : Cdg) : updF (ownF g) x.2.2 ((cntO g x.2.2 : Int) + 1) = ownF (g ++ [x]) := by
  funext c
  unfold updF ownF
  rw [cntO_snoc]
  by_cases h : c = x.2.2
  · subst h; rw [if_pos rfl, if_pos rfl, cnF_succ]
  · rw [if_neg h, if_neg (fun e => h e.symm)]; rfl
theorem abF_zero (l : List Nod) (g : List Cdg) (x : Int) : abF l g x 0 = fun c => cnF (cntA l g c) := by funext c; simp [abF]
theorem abF_full (l : List Nod) (g : List Cdg) (x : Cdg) : abF l g x.2.2 (upL l x.2.2).length = fun c => cnF (cntA l (g ++ [x]) c) := by
  funext c; unfold abF; rw [cntA_snoc, List.take_length]
theorem abF_step (l : List Nod) (g : List Cdg) (x : Int) {j : Nat} {y : Int} (hj : j < (upL l x).length) (hy : (upL l x).getD j 0 = y) (hnd : (upL l x).Nodup) : (abF l g x j y = cnF (cntA l g y)) ∧ updF (abF l g x j) y ((cntA l g y : Int) + 1) = abF l g x (j + 1) := by
  have hyj : (upL l x)[j] = y := by rw [← hy, getD_elem0 _ _ _ hj]
  have hnot : y ∉ (upL l x).take j := by
    intro hm
    obtain ⟨i, hi, he⟩ := List.getElem_of_mem hm
    rw [List.getElem_take] at he
    have hij : i < j := by rw [List.length_take] at hi; omega
    have hpw := List.pairwise_iff_getElem.1 hnd
    exact hpw i j (by omega) hj hij (he.trans hyj.symm)
  refine ⟨by unfold abF; rw [if_neg hnot]; rfl, ?_⟩
  funext c
  unfold updF abF
  rw [take_snoc _ _ hj, hyj]
  by_cases h : c = y
  · subst h
    rw [if_pos rfl, if_pos (by simp), cnF_succ]
  · rw [if_neg h]
    congr 2
    simp [h]

/-- Two maps and a block of the call's own. -/
structure FnSt (w0 : World) (r5 r6 b4 : Nat) (f5 f6 : Int → Option Int) (cs4 : Array Value) (T : TypeId) (wr : World) : Prop where
  bel : Below w0.heap.size w0 wr
  m5 : MapW wr r5 f5
  m6 : MapW wr r6 f6
  b : Blk wr b4 cs4 T
  lo : w0.heap.size ≤ r5 ∧ w0.heap.size ≤ r6 ∧ w0.heap.size ≤ b4
  ne : r5 ≠ r6 ∧ b4 ≠ r5 ∧ b4 ≠ r6
section
variable {w0 wr w' : World} {r5 r6 b4 : Nat} {f5 f6 : Int → Option Int} {cs4 : Array Value} {T : TypeId}
theorem FnSt.callB (h : FnSt w0 r5 r6 b4 f5 f6 cs4 T wr) (hb : Below wr.heap.size wr w') : FnSt w0 r5 r6 b4 f5 f6 cs4 T w' := ⟨h.bel.trans (hb.mono h.bel.size), h.m5.callB hb, h.m6.callB hb, h.b.callB hb, h.lo, h.ne⟩
theorem FnSt.alloc (h : FnSt w0 r5 r6 b4 f5 f6 cs4 T wr) (o : Obj) : FnSt w0 r5 r6 b4 f5 f6 cs4 T (wr.alloc o) := h.callB ((Below.refl _ _).alloc (Nat.le_refl _) o)
theorem FnSt.drewN (h : FnSt w0 r5 r6 b4 f5 f6 cs4 T wr) (q : Nat) : FnSt w0 r5 r6 b4 f5 f6 cs4 T (wr.drewN q) := h.callB (bdrewN (Below.refl _ _) q)
theorem FnSt.put5 (h : FnSt w0 r5 r6 b4 f5 f6 cs4 T wr) (k x : Int) : ∃ o, (∀ q, (Instr.mapUpdate 31 (.map (some r5)) (.int .i64 k) (.int .i64 x)).run Tryd.prog (wr.drewN q) = .ok () (setMap (wr.drewN q) r5 o)) ∧ ∀ q, FnSt w0 r5 r6 b4 (updF f5 k x) f6 cs4 T (setMap (wr.drewN q) r5 o) := by
  obtain ⟨o, h1, h2⟩ := h.m5.put k x
  have hd := fun q => h.drewN q
  exact ⟨o, h1, fun q => ⟨Below_grown (bdrewN h.bel q) (setMap_grown _ r5 o) h.lo.1, h2 _ (setMap_same o h.m5.lt), ((hd q).m6).grown (setMap_grown _ r5 o) h.ne.1.symm, Blk.grown (hd q).b (setMap_grown _ r5 o) h.ne.2.1, h.lo, h.ne⟩⟩
theorem FnSt.put6 (h : FnSt w0 r5 r6 b4 f5 f6 cs4 T wr) (k x : Int) : ∃ o, (∀ q, (Instr.mapUpdate 31 (.map (some r6)) (.int .i64 k) (.int .i64 x)).run Tryd.prog (wr.drewN q) = .ok () (setMap (wr.drewN q) r6 o)) ∧ ∀ q, FnSt w0 r5 r6 b4 f5 (updF f6 k x) cs4 T (setMap (wr.drewN q) r6 o) := by
  obtain ⟨o, h1, h2⟩ := h.m6.put k x
  have hd := fun q => h.drewN q
  exact ⟨o, h1, fun q => ⟨Below_grown (bdrewN h.bel q) (setMap_grown _ r6 o) h.lo.2.1, ((hd q).m5).grown (setMap_grown _ r6 o) h.ne.1, h2 _ (setMap_same o h.m6.lt), Blk.grown (hd q).b (setMap_grown _ r6 o) h.ne.2.2, h.lo, h.ne⟩⟩
end
end Go.Proofs.YtngogjookldidaaDoor
