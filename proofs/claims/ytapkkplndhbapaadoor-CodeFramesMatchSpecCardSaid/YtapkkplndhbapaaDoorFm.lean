/- Plain law of meetings of codes: the first common code above two, distances, the triangle. No program in sight. -/
import Derived.Test.YtapkkplndhbapaaDoorFr
namespace Go.Proofs.YtapkkplndhbapaaDoor
set_option linter.unusedVariables false

def Vld (l : List Nod) (n : Nat) (c : Int) (m : Nat) : Prop := lvA l n c = some m
theorem mem_upA {l : List Nod} {n : Nat} : ∀ {m : Nat} {c x : Int}, lvA l n c = some m → x ∈ upA l m c → ∃ j, lvA l n x = some (j + 1) ∧ j + 1 ≤ m ∧ (j + 1 = m → x = c) ∧ (∀ y ∈ upA l (j + 1) x, y ∈ upA l m c) ∧ (∀ y ∈ upA l m c, ∀ i, lvA l n y = some i → i ≤ j + 1 → y ∈ upA l (j + 1) x)
  | 0, c, x, h, hx => by simp [upA] at hx
  | m + 1, c, x, h, hx => by
    obtain ⟨h0, h1⟩ := lvA_step h
    rw [upA] at hx
    rcases List.mem_cons.1 hx with rfl | hx
    · exact ⟨m, h, Nat.le_refl _, fun _ => rfl, fun y hy => hy, fun y hy _ _ _ => hy⟩
    · obtain ⟨j, a, b, d, e, f⟩ := mem_upA h1 hx
      refine ⟨j, a, by omega, fun h => by omega, fun y hy => ?_, fun y hy i hi hle => ?_⟩
      · rw [upA]; exact List.mem_cons_of_mem _ (e y hy)
      · rw [upA] at hy
        rcases List.mem_cons.1 hy with rfl | hy
        · rw [h] at hi; cases hi; omega
        · exact f y hy i hi hle
/-- The code at which two meet: the first above a that is above b too, else 0. -/
noncomputable def meetOf (l : List Nod) (a b : Int) : Int := ((upL l a ++ [0]).find? (fun x => decide (x = 0 ∨ x ∈ upL l b))).getD 0
noncomputable def distOf (l : List Nod) (a b : Int) : Int := (lvl l a : Int) + lvl l b - 2 * lvl l (meetOf l a b)
def cmn (l : List Nod) (a b x : Int) : Prop := x ∈ upL l a ∧ x ∈ upL l b
theorem lvl_zero (l : List Nod) : lvl l 0 = 0 := by rw [lvl, lvA_zero]; rfl
theorem find_cases {l : List Nod} {n : Nat} (hn : l.length = n) (b : Int) (hz : ∀ x ∈ upL l b, x ≠ 0) : ∀ {m : Nat} {a : Int}, lvA l n a = some m →
    (((upA l m a ++ [0]).find? (fun x => decide (x = 0 ∨ x ∈ upL l b))).getD 0 = 0 ∧ ∀ x, x ∈ upA l m a → x ∉ upL l b) ∨
    ∃ x, ((upA l m a ++ [0]).find? (fun x => decide (x = 0 ∨ x ∈ upL l b))).getD 0 = x ∧ x ∈ upA l m a ∧ x ∈ upL l b ∧ ∀ y, y ∈ upA l m a → y ∈ upL l b → ∀ i j, lvA l n y = some i → lvA l n x = some j → i ≤ j
  | 0, a, h => by left; simp [upA]
  | m + 1, a, h => by
    obtain ⟨h0, h1⟩ := lvA_step h
    by_cases hb : a ∈ upL l b
    · right
      refine ⟨a, by simp [upA, hb], by simp [upA], hb, fun y hy hyb i j hi hj => ?_⟩
      obtain ⟨k, q1, q2, _⟩ := mem_upA h hy
      rw [h] at hj; rw [q1] at hi; cases hi; cases hj; exact q2
    · rcases find_cases hn b hz h1 with ⟨e, f⟩ | ⟨x, e, f1, f2, f3⟩
      · left
        refine ⟨by rw [upA]; simpa [hb, h0] using e, fun x hx => ?_⟩
        rw [upA] at hx
        rcases List.mem_cons.1 hx with rfl | hx
        · exact hb
        · exact f x hx
      · right
        refine ⟨x, by rw [upA]; simpa [hb, h0] using e, by rw [upA]; exact List.mem_cons_of_mem _ f1, f2, fun y hy hyb i j hi hj => ?_⟩
        rw [upA] at hy
        rcases List.mem_cons.1 hy with rfl | hy
        · exact absurd hyb hb
        · exact f3 y hy hyb i j hi hj
section
variable {l : List Nod} {n : Nat}
theorem upL_eq (hn : l.length = n) {a : Int} {m : Nat} (h : lvA l n a = some m) : upL l a = upA l m a ∧ lvl l a = m := by
  have : lvl l a = m := by rw [lvl, hn, h]; rfl
  exact ⟨by rw [upL, this], this⟩
theorem up_facts (hn : l.length = n) {a x : Int} {m : Nat} (h : lvA l n a = some m) (hx : x ∈ upL l a) :
    lvA l n x = some (lvl l x) ∧ 0 < lvl l x ∧ lvl l x ≤ lvl l a ∧ (lvl l x = lvl l a → x = a) ∧ (∀ y ∈ upL l x, y ∈ upL l a) ∧ (∀ y ∈ upL l a, lvl l y ≤ lvl l x → y ∈ upL l x) := by
  obtain ⟨e1, e2⟩ := upL_eq hn h
  rw [e1] at hx
  obtain ⟨j, q1, q2, q3, q4, q5⟩ := mem_upA h hx
  obtain ⟨f1, f2⟩ := upL_eq hn q1
  refine ⟨by rw [f2]; exact q1, by omega, by omega, fun he => q3 (by omega), fun y hy => ?_, fun y hy hle => ?_⟩
  · rw [f1] at hy; rw [e1]; exact q4 y hy
  · rw [e1] at hy; rw [f1]
    obtain ⟨i, r1, _⟩ := mem_upA h hy
    have := (upL_eq hn r1).2
    exact q5 y hy _ r1 (by omega)
theorem not0 (hn : l.length = n) {a x : Int} {m : Nat} (h : lvA l n a = some m) (hx : x ∈ upL l a) : x ≠ 0 := by
  intro e
  have := (up_facts hn h hx).2.1
  rw [e, lvl_zero] at this; omega
theorem self_mem (hn : l.length = n) {a : Int} {m : Nat} (h : lvA l n a = some m) (h0 : a ≠ 0) : a ∈ upL l a := by
  obtain ⟨j, rfl⟩ := lvA_pos h h0
  rw [(upL_eq hn h).1, upA]; simp
theorem meet_spec (hn : l.length = n) {a b : Int} {ma mb : Nat} (ha : lvA l n a = some ma) (hb : lvA l n b = some mb) :
    (meetOf l a b = 0 ∧ ∀ x, ¬ cmn l a b x) ∨ (cmn l a b (meetOf l a b) ∧ ∀ y, cmn l a b y → lvl l y ≤ lvl l (meetOf l a b)) := by
  obtain ⟨e1, e2⟩ := upL_eq hn ha
  rcases find_cases hn b (fun x hx => not0 hn hb hx) ha with ⟨e, f⟩ | ⟨x, e, f1, f2, f3⟩
  · left
    refine ⟨by rw [meetOf, e1]; exact e, fun x hx => ?_⟩
    have := hx.1
    rw [e1] at this
    exact f x this hx.2
  · right
    have hm : meetOf l a b = x := by rw [meetOf, e1]; exact e
    rw [hm]
    have hxa : x ∈ upL l a := by rw [e1]; exact f1
    refine ⟨⟨hxa, f2⟩, fun y hy => ?_⟩
    have h1 := hy.1
    rw [e1] at h1
    exact f3 y h1 hy.2 _ _ (up_facts hn ha hy.1).1 (up_facts hn ha hxa).1
theorem meet_comm (hn : l.length = n) {a b : Int} {ma mb : Nat} (ha : lvA l n a = some ma) (hb : lvA l n b = some mb) : meetOf l a b = meetOf l b a := by
  rcases meet_spec hn ha hb with ⟨h1, h2⟩ | ⟨h1, h2⟩ <;> rcases meet_spec hn hb ha with ⟨k1, k2⟩ | ⟨k1, k2⟩
  · rw [h1, k1]
  · exact absurd ⟨k1.2, k1.1⟩ (h2 _)
  · exact absurd ⟨h1.2, h1.1⟩ (k2 _)
  · have l1 := k2 _ ⟨h1.2, h1.1⟩
    have l2 := h2 _ ⟨k1.2, k1.1⟩
    have hm := (up_facts hn ha h1.1)
    have := hm.2.2.2.2.2 _ k1.2 l2
    have hf := up_facts hn hm.1 this
    exact (hf.2.2.2.1 (by omega)).symm
theorem dist_comm (hn : l.length = n) {a b : Int} {ma mb : Nat} (ha : lvA l n a = some ma) (hb : lvA l n b = some mb) : distOf l a b = distOf l b a := by
  unfold distOf; rw [meet_comm hn ha hb]; omega
theorem meet_le (hn : l.length = n) {a b : Int} {ma mb : Nat} (ha : lvA l n a = some ma) (hb : lvA l n b = some mb) : lvl l (meetOf l a b) ≤ lvl l a ∧ lvl l (meetOf l a b) ≤ lvl l b := by
  rcases meet_spec hn ha hb with ⟨h1, h2⟩ | ⟨h1, h2⟩
  · rw [h1, lvl_zero]; omega
  · exact ⟨(up_facts hn ha h1.1).2.2.1, (up_facts hn hb h1.2).2.2.1⟩
theorem dist_zero (hn : l.length = n) {a b : Int} {ma mb : Nat} (ha : lvA l n a = some ma) (hb : lvA l n b = some mb) (h0 : a ≠ 0) : distOf l a b = 0 ↔ a = b := by
  have hle := meet_le hn ha hb
  constructor
  · intro h
    unfold distOf at h
    have e1 : lvl l (meetOf l a b) = lvl l a := by omega
    have e2 : lvl l (meetOf l a b) = lvl l b := by omega
    rcases meet_spec hn ha hb with ⟨h1, h2⟩ | ⟨h1, h2⟩
    · exfalso
      have := (up_facts hn ha (self_mem hn ha h0)).2.1
      rw [h1, lvl_zero] at e1; omega
    · rw [← (up_facts hn ha h1.1).2.2.2.1 e1]
      exact (up_facts hn hb h1.2).2.2.2.1 e2
  · rintro rfl
    have hs := self_mem hn ha h0
    rcases meet_spec hn ha hb with ⟨h1, h2⟩ | ⟨h1, h2⟩
    · exact absurd ⟨hs, hs⟩ (h2 a)
    · have := h2 a ⟨hs, hs⟩
      unfold distOf; omega
theorem dist_tri (hn : l.length = n) {a b c : Int} {ma mb mc : Nat} (ha : lvA l n a = some ma) (hb : lvA l n b = some mb) (hc : lvA l n c = some mc) : distOf l a c ≤ distOf l a b + distOf l b c := by
  have key : lvl l (meetOf l a b) + lvl l (meetOf l b c) ≤ lvl l b + lvl l (meetOf l a c) := by
    have hab := meet_le hn ha hb
    have hbc := meet_le hn hb hc
    rcases meet_spec hn ha hb with ⟨h1, h2⟩ | ⟨h1, h2⟩
    · rw [h1, lvl_zero]; omega
    rcases meet_spec hn hb hc with ⟨k1, k2⟩ | ⟨k1, k2⟩
    · rw [k1, lvl_zero]; omega
    have fx := up_facts hn hb h1.2
    have fy := up_facts hn hb k1.1
    have hac : ∃ z, cmn l a c z ∧ (lvl l z = lvl l (meetOf l a b) ∨ lvl l z = lvl l (meetOf l b c)) := by
      rcases Nat.le_total (lvl l (meetOf l a b)) (lvl l (meetOf l b c)) with hle | hle
      · have := fy.2.2.2.2.2 _ h1.2 hle
        exact ⟨_, ⟨h1.1, (up_facts hn hc k1.2).2.2.2.2.1 _ this⟩, .inl rfl⟩
      · have := fx.2.2.2.2.2 _ k1.1 hle
        exact ⟨_, ⟨(up_facts hn ha h1.1).2.2.2.2.1 _ this, k1.2⟩, .inr rfl⟩
    obtain ⟨z, hz, hzl⟩ := hac
    rcases meet_spec hn ha hc with ⟨g1, g2⟩ | ⟨g1, g2⟩
    · exact absurd hz (g2 z)
    · have := g2 z hz
      rcases Nat.le_total (lvl l (meetOf l a b)) (lvl l (meetOf l b c)) with hle | hle
      · have h3 := fy.2.2.2.2.2 _ h1.2 hle
        have h4 := g2 _ ⟨h1.1, (up_facts hn hc k1.2).2.2.2.2.1 _ h3⟩
        omega
      · have h3 := fx.2.2.2.2.2 _ k1.1 hle
        have h4 := g2 _ ⟨(up_facts hn ha h1.1).2.2.2.2.1 _ h3, k1.2⟩
        omega
  unfold distOf; omega
end
end Go.Proofs.YtapkkplndhbapaaDoor
