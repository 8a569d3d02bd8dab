/- Plain law of meetings of codes: the first common code above two, distances, the triangle. No program in sight. The walks of the reference's within, titled, find. The walks of the reference's above and CheckFrame. The walk of the reference's CheckFrame. The walks of meeting and Meeting. Conditions: the tree is in memory as told. The walks of the reference's lineage, CheckCodings, and of slices.Clone at codings. The walk of the reference's CheckCodings. The walk of CodeDistancesAreDistances. Conditions: those that the claim form gives. The walk of Lift. The walk of the reference's Lift. The walk of movesOf. Conditions: the trees are in memory as told. The walk of Recode. The walks of slices.Equal at codings and finals. The walk of CodeLiftsAgree, and its plain law. Conditions: those that the claim form gives. The walk of the reference's Recode. Finals of codings: the plain law. No program in sight. The walks of cases, on both sides. Ranging over maps of integers in a walk; the counts of final. Conditions: none beyond what the claim form gives. -/
import Derived.Test.YtngogjookldidaaGreatDoorKA
import Derived.Test.YtngogjookldidaaGreatDoorLB
import Derived.Laws.StructEq
import Derived.Deep.RegionHeld3
import Derived.Deep.RegionLaw
import Derived.Deep.AppendLies
namespace Go.Proofs.YtngogjookldidaaGreatDoor
set_option linter.unusedVariables false
set_option linter.unusedSimpArgs false

def Vld (l : List Nod) (n : Nat) (c : Int) (m : Nat) : Prop := lvA l n c = some m
theorem mem_upA {l : List Nod} {n : Nat} : ∀ {m : Nat} {c x : Int}, lvA l n c = some m → x ∈ upA l m c → ∃ j, lvA l n x = some (j + 1) ∧ j + 1 ≤ m ∧ (j + 1 = m → x = c) ∧ (∀ y ∈ upA l (j + 1) x, y ∈ upA l m c) ∧ (∀ y ∈ upA l m c, ∀ i, lvA l n y = some i → i ≤ j + 1 → y ∈ upA l (j + 1) x)
  | 0, c, x, h, hx => by simp [upA] at hx
  | m + 1, c, x, h, hx => by
    obtain ⟨h0, h1⟩ := lvA_step h
    rw [upA] at hx
    rcases List.mem_cons.1 hx with rfl | hx
    · exact ⟨m, h, Nat.le_refl _, fun _ => rfl, fun y hy => hy, fun y hy _ _ _ => hy⟩
    · obtain ⟨j, a, b, d, e, f⟩ := mem_upA h1 hx
      refine ⟨j, a, by omega, fun h => by omega, fun y hy => ?_, fun y hy i hi hle => ?_⟩
      · rw [upA]; exact List.mem_cons_of_mem _ (e y hy)
      · rw [upA] at hy
        rcases List.mem_cons.1 hy with rfl | hy
        · rw [h] at hi; cases hi; omega
        · exact f y hy i hi hle
/-- The code at which two meet: the first above a that is above b too, else 0. -/
noncomputable def meetOf (l : List Nod) (a b : Int) : Int := ((upL l a ++ [0]).find? (fun x => decide (x = 0 ∨ x ∈ upL l b))).getD 0
noncomputable def distOf (l : List Nod) (a b : Int) : Int := (lvl l a : Int) + lvl l b - 2 * lvl l (meetOf l a b)
def cmn (l : List Nod) (a b x : Int) : Prop := x ∈ upL l a ∧ x ∈ upL l b
theorem lvl_zero (l : List Nod) : lvl l 0 = 0 := by rw [lvl, lvA_zero]; rfl
theorem find_cases {l : List Nod} {n : Nat} (hn : l.length = n) (b : Int) (hz : ∀ x ∈ upL l b, x ≠ 0) : ∀ {m : Nat} {a : Int}, lvA l n a = some m →
    (((upA l m a ++ [0]).find? (fun x => decide (x = 0 ∨ x ∈ upL l b))).getD 0 = 0 ∧ ∀ x, x ∈ upA l m a → x ∉ upL l b) ∨
    ∃ x, ((upA l m a ++ [0]).find? (fun x => decide (x = 0 ∨ x ∈ upL l b))).getD 0 = x ∧ x ∈ upA l m a ∧ x ∈ upL l b ∧ ∀ y, y ∈ upA l m a → y ∈ upL l b → ∀ i j, lvA l n y = some i → lvA l n x = some j → i ≤ j
  | 0, a, h => by left; simp [upA]
  | m + 1, a, h => by
    obtain ⟨h0, h1⟩ := lvA_step h
    by_cases hb : a ∈ upL l b
    · right
      refine ⟨a, by simp [upA, hb], by simp [upA], hb, fun y hy hyb i j hi hj => ?_⟩
      obtain ⟨k, q1, q2, _⟩ := mem_upA h hy
      rw [h] at hj; rw [q1] at hi; cases hi; cases hj; exact q2
    · rcases find_cases hn b hz h1 with ⟨e, f⟩ | ⟨x, e, f1, f2, f3⟩
      · left
        refine ⟨by rw [upA]; simpa [hb, h0] using e, fun x hx => ?_⟩
        rw [upA] at hx
        rcases List.mem_cons.1 hx with rfl | hx
        · exact hb
        · exact f x hx
      · right
        refine ⟨x, by rw [upA]; simpa [hb, h0] using e, by rw [upA]; exact List.mem_cons_of_mem _ f1, f2, fun y hy hyb i j hi hj => ?_⟩
        rw [upA] at hy
        rcases List.mem_cons.1 hy with rfl | hy
        · exact absurd hyb hb
        · exact f3 y hy hyb i j hi hj
section
variable {l : List Nod} {n : Nat}
theorem upL_eq (hn : l.length = n) {a : Int} {m : Nat} (h : lvA l n a = some m) : upL l a = upA l m a ∧ lvl l a = m := by
  have : lvl l a = m := by rw [lvl, hn, h]; rfl
  exact ⟨by rw [upL, this], this⟩
theorem up_facts (hn : l.length = n) {a x : Int} {m : Nat} (h : lvA l n a = some m) (hx : x ∈ upL l a) :
    lvA l n x = some (lvl l x) ∧ 0 < lvl l x ∧ lvl l x ≤ lvl l a ∧ (lvl l x = lvl l a → x = a) ∧ (∀ y ∈ upL l x, y ∈ upL l a) ∧ (∀ y ∈ upL l a, lvl l y ≤ lvl l x → y ∈ upL l x) := by
  obtain ⟨e1, e2⟩ := upL_eq hn h
  rw [e1] at hx
  obtain ⟨j, q1, q2, q3, q4, q5⟩ := mem_upA h hx
  obtain ⟨f1, f2⟩ := upL_eq hn q1
  refine ⟨by rw [f2]; exact q1, by omega, by omega, fun he => q3 (by omega), fun y hy => ?_, fun y hy hle => ?_⟩
  · rw [f1] at hy; rw [e1]; exact q4 y hy
  · rw [e1] at hy; rw [f1]
    obtain ⟨i, r1, _⟩ := mem_upA h hy
    have := (upL_eq hn r1).2
    exact q5 y hy _ r1 (by omega)
theorem not0 (hn : l.length = n) {a x : Int} {m : Nat} (h : lvA l n a = some m) (hx : x ∈ upL l a) : x ≠ 0 := by
  intro e
  have := (up_facts hn h hx).2.1
  rw [e, lvl_zero] at this; omega
theorem self_mem (hn : l.length = n) {a : Int} {m : Nat} (h : lvA l n a = some m) (h0 : a ≠ 0) : a ∈ upL l a := by
  obtain ⟨j, rfl⟩ := lvA_pos h h0
  rw [(upL_eq hn h).1, upA]; simp
theorem meet_spec (hn : l.length = n) {a b : Int} {ma mb : Nat} (ha : lvA l n a = some ma) (hb : lvA l n b = some mb) :
    (meetOf l a b = 0 ∧ ∀ x, ¬ cmn l a b x) ∨ (cmn l a b (meetOf l a b) ∧ ∀ y, cmn l a b y → lvl l y ≤ lvl l (meetOf l a b)) := by
  obtain ⟨e1, e2⟩ := upL_eq hn ha
  rcases find_cases hn b (fun x hx => not0 hn hb hx) ha with ⟨e, f⟩ | ⟨x, e, f1, f2, f3⟩
  · left
    refine ⟨by rw [meetOf, e1]; exact e, fun x hx => ?_⟩
    have := hx.1
    rw [e1] at this
    exact f x this hx.2
  · right
    have hm : meetOf l a b = x := by rw [meetOf, e1]; exact e
    rw [hm]
    have hxa : x ∈ upL l a := by rw [e1]; exact f1
    refine ⟨⟨hxa, f2⟩, fun y hy => ?_⟩
    have h1 := hy.1
    rw [e1] at h1
    exact f3 y h1 hy.2 _ _ (up_facts hn ha hy.1).1 (up_facts hn ha hxa).1
theorem meet_comm (hn : l.length = n) {a b : Int} {ma mb : Nat} (ha : lvA l n a = some ma) (hb : lvA l n b = some mb) : meetOf l a b = meetOf l b a := by
  rcases meet_spec hn ha hb with ⟨h1, h2⟩ | ⟨h1, h2⟩ <;> rcases meet_spec hn hb ha with ⟨k1, k2⟩ | ⟨k1, k2⟩
  · rw [h1, k1]
  · exact absurd ⟨k1.2, k1.1⟩ (h2 _)
  · exact absurd ⟨h1.2, h1.1⟩ (k2 _)
  · have l1 := k2 _ ⟨h1.2, h1.1⟩
    have l2 := h2 _ ⟨k1.2, k1.1⟩
    have hm := (up_facts hn ha h1.1)
    have := hm.2.2.2.2.2 _ k1.2 l2
    have hf := up_facts hn hm.1 this
    exact (hf.2.2.2.1 (by omega)).symm
theorem dist_comm (hn : l.length = n) {a b : Int} {ma mb : Nat} (ha : lvA l n a = some ma) (hb : lvA l n b = some mb) : distOf l a b = distOf l b a := by
  unfold distOf; rw [meet_comm hn ha hb]; omega
theorem meet_le (hn : l.length = n) {a b : Int} {ma mb : Nat} (ha : lvA l n a = some ma) (hb : lvA l n b = some mb) : lvl l (meetOf l a b) ≤ lvl l a ∧ lvl l (meetOf l a b) ≤ lvl l b := by
  rcases meet_spec hn ha hb with ⟨h1, h2⟩ | ⟨h1, h2⟩
  · rw [h1, lvl_zero]; omega
  · exact ⟨(up_facts hn ha h1.1).2.2.1, (up_facts hn hb h1.2).2.2.1⟩
theorem dist_zero (hn : l.length = n) {a b : Int} {ma mb : Nat} (ha : lvA l n a = some ma) (hb : lvA l n b = some mb) (h0 : a ≠ 0) : distOf l a b = 0 ↔ a = b := by
  have hle := meet_le hn ha hb
  constructor
  · intro h
    unfold distOf at h
    have e1 : lvl l (meetOf l a b) = lvl l a := by omega
    have e2 : lvl l (meetOf l a b) = lvl l b := by omega
    rcases meet_spec hn ha hb with ⟨h1, h2⟩ | ⟨h1, h2⟩
    · exfalso
      have := (up_facts hn ha (self_mem hn ha h0)).2.1
      rw [h1, lvl_zero] at e1; omega
    · rw [← (up_facts hn ha h1.1).2.2.2.1 e1]
      exact (up_facts hn hb h1.2).2.2.2.1 e2
  · rintro rfl
    have hs := self_mem hn ha h0
    rcases meet_spec hn ha hb with ⟨h1, h2⟩ | ⟨h1, h2⟩
    · exact absurd ⟨hs, hs⟩ (h2 a)
    · have := h2 a ⟨hs, hs⟩
      unfold distOf; omega
theorem dist_tri (hn : l.length = n) {a b c : Int} {ma mb mc : Nat} (ha : lvA l n a = some ma) (hb : lvA l n b = some mb) (hc : lvA l n c = some mc) : distOf l a c ≤ distOf l a b + distOf l b c := by
  have key : lvl l (meetOf l a b) + lvl l (meetOf l b c) ≤ lvl l b + lvl l (meetOf l a c) := by
    have hab := meet_le hn ha hb
    have hbc := meet_le hn hb hc
    rcases meet_spec hn ha hb with ⟨h1, h2⟩ | ⟨h1, h2⟩
    · rw [h1, lvl_zero]; omega
    rcases meet_spec hn hb hc with ⟨k1, k2⟩ | ⟨k1, k2⟩
    · rw [k1, lvl_zero]; omega
    have fx := up_facts hn hb h1.2
    have fy := up_facts hn hb k1.1
    have hac : ∃ z, cmn l a c z ∧ (lvl l z = lvl l (meetOf l a b) ∨ lvl l z = lvl l (meetOf l b c)) := by
      rcases Nat.le_total (lvl l (meetOf l a b)) (lvl l (meetOf l b c)) with hle | hle
      · have := fy.2.2.2.2.2 _ h1.2 hle
        exact ⟨_, ⟨h1.1, (up_facts hn hc k1.2).2.2.2.2.1 _ this⟩, .inl rfl⟩
      · have := fx.2.2.2.2.2 _ k1.1 hle
        exact ⟨_, ⟨(up_facts hn ha h1.1).2.2.2.2.1 _ this, k1.2⟩, .inr rfl⟩
    obtain ⟨z, hz, hzl⟩ := hac
    rcases meet_spec hn ha hc with ⟨g1, g2⟩ | ⟨g1, g2⟩
    · exact absurd hz (g2 z)
    · have := g2 z hz
      rcases Nat.le_total (lvl l (meetOf l a b)) (lvl l (meetOf l b c)) with hle | hle
      · have h3 := fy.2.2.2.2.2 _ h1.2 hle
        have h4 := g2 _ ⟨h1.1, (up_facts hn hc k1.2).2.2.2.2.1 _ h3⟩
        omega
      · have h3 := fx.2.2.2.2.2 _ k1.1 hle
        have h4 := g2 _ ⟨(up_facts hn ha h1.1).2.2.2.2.1 _ h3, k1.2⟩
        omega
  unfold distOf; omega
end
end Go.Proofs.YtngogjookldidaaGreatDoor

namespace Go.Proofs.YtngogjookldidaaGreatDoor
open Go.RowKit
set_option linter.unusedVariables false
set_option linter.unusedSimpArgs false

theorem within_any (n lo hi : Int) (w : World) :
    Calls Tryz.prog 39 #[.int .i64 n, .int .i64 lo, .int .i64 hi] w fun e w' => e = .returned (.bool (!outB n lo hi)) ∧ w = w' := by
  go_enter Tryz.func39, Tryz.ntmps39
  by_cases h : lo ≤ n
  · go_wp2
    go_ret
    exact ⟨ret_bool (by unfold outB; rw [Bool.eq_iff_iff]; simp; omega), rfl⟩
  · go_wp2
    go_ret
    exact ⟨ret_bool (by unfold outB; rw [Bool.eq_iff_iff]; simp; omega), rfl⟩
theorem within_b (n lo hi : Int) (w : World) {b : Bool} (h : outB n lo hi = b) :
    Calls Tryz.prog 39 #[.int .i64 n, .int .i64 lo, .int .i64 hi] w fun e w' => e = .returned (.bool (!b)) ∧ w = w' := by rw [← h]; exact within_any n lo hi w
set_option maxHeartbeats 400000 in
theorem titled_any (s : ByteArray) (w : World) (hs : s.size ≤ 1000000000) :
    Calls Tryz.prog 82 #[.string s] w fun e w' => e = .returned (.bool (titleB s)) ∧ w = w' := by
  go_enter Tryz.func82, Tryz.ntmps82
  by_cases hz : s.size = 0
  · have he : s.toList.isEmpty = true := by rw [isEmpty_iff]; simp [hz]
    have he2 : s.toList = [] := List.isEmpty_iff.1 he
    have HZ := Lib.hid hz
    clear hz
    go_wp2
    go_ret
    exact ⟨ret_bool (titleB_false (fun h => by have := h.2.1; have := HZ.out; omega)).symm, rfl⟩
  have he : s.toList.isEmpty = false := by rw [isEmpty_iff]; simp [hz]
  have hp : 0 < s.size := by omega
  have hp2 : s.size - 1 < s.size := by omega
  have b0 := Lib.hid (byt_eq s 0 hp)
  have b1 := Lib.hid (byt_eq s (s.size - 1) hp2)
  clear hz
  by_cases h0 : ((s[0]'hp).toNat : Int) = 32
  · have hb0 : (((s[0]'hp).toNat : Int) == 32) = true := by simp [h0]
    have H0 := Lib.hid h0
    clear h0
    go_wp2
    go_ret
    exact ⟨ret_bool (titleB_false (fun h => h.2.2.1 (b0.out.trans H0.out))).symm, rfl⟩
  have hb0 : (((s[0]'hp).toNat : Int) == 32) = false := by simp [h0]
  have H0 := Lib.hid h0
  clear h0
  by_cases h1 : ((s[s.size - 1]'hp2).toNat : Int) = 32
  · have hb1 : (((s[s.size - 1]'hp2).toNat : Int) == 32) = true := by simp [h1]
    have H1 := Lib.hid h1
    clear h1
    go_wp2
    go_ret
    exact ⟨ret_bool (titleB_false (fun h => h.2.2.2 (b1.out.trans H1.out))).symm, rfl⟩
  have hb1 : (((s[s.size - 1]'hp2).toNat : Int) == 32) = false := by simp [h1]
  have H1 := Lib.hid h1
  clear h1
  go_wp2
  go_loop [21] (fun i => ∃ k : Nat, k ≤ s.size ∧ i = .int .i64 k ∧ Hid (∀ i, i < k → outB (byt s i) 32 126 = false)) (fun i => s.size - (intOf i).toNat)
  case atStart => exact ⟨0, Nat.zero_le _, rfl, Lib.hid (fun i hi => by omega)⟩
  case round =>
    clear hb0 hb1
    obtain ⟨k, hk, rfl, hok⟩ := hrel
    by_cases hlt : k < s.size
    · have hb := byt_bd s k
      have he := Lib.hid (byt_eq s k hlt)
      have hc : ((s[k]'hlt).toNat : Int) < 256 := by rw [← he.out]; omega
      go_wp2_with fail
      rw [← he.out]
      obtain ⟨o, ho⟩ : ∃ o, Hid (outB (byt s k) 32 126 = o) := ⟨_, Lib.hid rfl⟩
      refine (within_b _ _ _ _ ho.out).mono ?_
      rintro e w' ⟨rfl, rfl⟩
      cases o
      · go_wp2
        go_round
        case rel => exact ⟨k + 1, by omega, by go_num, Lib.hid (fun i hi => by
          by_cases e : i = k
          · subst e; exact ho.out
          · exact hok.out i (by omega))⟩
        case measure => (simp [intOf] <;> omega)
      · go_wp2
        go_ret
        exact ⟨ret_bool (titleB_false (fun h => by have := h.1 k hlt; rw [ho.out] at this; cases this)).symm, rfl⟩
    · obtain rfl : k = s.size := by omega
      go_wp2
      go_ret
      exact ⟨ret_bool (titleB_true ⟨hok.out, hp, fun e => H0.out (b0.out.symm.trans e), fun e => H1.out (b1.out.symm.trans e)⟩).symm, rfl⟩

/-- The place of a code, or -1. -/
def fdI (l : List Nod) (c : Int) : Int := match ix l c with | some i => (i : Int) | none => -1
theorem fdI_some {l : List Nod} {c : Int} {i : Nat} (h : ix l c = some i) : fdI l c = i := by rw [fdI, h]
theorem fdI_none {l : List Nod} {c : Int} (h : ix l c = none) : fdI l c = -1 := by rw [fdI, h]
theorem find_any {w : World} {a : Option Addr} {c n : Nat} {l : List Nod} {φ : Phi} (hφ : Fz φ w) (s : SlV φ a c l) (hok : Hid (FrOk l n)) (x : Int) :
    Calls Tryz.prog 56 #[.slice a n c, .int .i64 x] w fun e w' => e = .returned (.int .i64 (fdI l x)) ∧ Below w.heap.size w w' := by
  have hn : Hid (l.length = n) := Lib.hid hok.out.len
  have hn6 : n ≤ 600 := hok.out.pos.2
  go_enter Tryz.func56, Tryz.ntmps56
  go_wp2
  go_loopw [9] (fun i wr => ∃ k : Nat, k ≤ n ∧ i = .int .i64 k ∧ Hid (∀ i, i < k → cod l i ≠ x) ∧ Below w.heap.size w wr) (fun i _ => n - (intOf i).toNat)
  case atStart => exact ⟨0, Nat.zero_le _, rfl, Lib.hid (fun i hi => by omega), Below.refl _ _⟩
  case round =>
    obtain ⟨k, hk, rfl, hne, hbel⟩ := hrel
    by_cases hlt : k < n
    · obtain ⟨b, off, rfl, f⟩ := s.nodesD hn hlt
      obtain ⟨hb, c1, c2, c3⟩ := f k hlt wr (hφ.below hbel)
      have hix := Lib.hid (hok.out.ix_of hlt)
      have hcd : Hid (cod l k = (l.getD k nod0).1) := Lib.hid rfl
      clear f
      generalize (l.getD k nod0).1 = m at *
      generalize (l.getD k nod0).2.1 = pa at *
      generalize (l.getD k nod0).2.2 = ti at *
      have hbel2 : ∀ o, Below w.heap.size w (wr.alloc o) := fun o => hbel.alloc hbel.size o
      by_cases he : m = x
      · subst he
        go_wp2
        go_ret
        exact ⟨ret_int (by rw [← hcd.out, fdI_some hix.out]), hbel2 _⟩
      · have hbq : ((m : Int) == x) = false := by simp [he]
        have HE := Lib.hid he
        clear he
        go_wp2
        go_roundw
        case rel => exact ⟨k + 1, by omega, by go_num, Lib.hid (fun i hi => by
          by_cases e : i = k
          · subst e; rw [hcd.out]; exact HE.out
          · exact hne.out i (by omega)), hbel2 _⟩
        case measure => (simp [intOf] <;> omega)
    · obtain rfl : k = n := by omega
      go_wp2
      go_ret
      refine ⟨ret_int (fdI_none ?_).symm, hbel⟩
      cases hx : ix l x with
      | none => rfl
      | some i => obtain ⟨h1, h2⟩ := hok.out.ix_some hx; exact absurd h2 (hne.out i h1)
end Go.Proofs.YtngogjookldidaaGreatDoor

namespace Go.Proofs.YtngogjookldidaaGreatDoor
open Go.RowKit
set_option linter.unusedVariables false
set_option linter.unusedSimpArgs false

theorem nodup_sub : ∀ (xs ys : List Int), xs.Nodup → (∀ x ∈ xs, x ∈ ys) → xs.length ≤ ys.length
  | [], _, _, _ => by simp
  | x :: xs, ys, hn, hs => by
    have hx : x ∈ ys := hs x (by simp)
    have hn' := List.nodup_cons.1 hn
    have := nodup_sub xs (ys.erase x) hn'.2 (fun y hy => by
      have hne : y ≠ x := fun e => hn'.1 (e ▸ hy)
      exact (List.mem_erase_of_ne hne).2 (hs y (by simp [hy])))
    rw [List.length_erase_of_mem hx] at this
    have hp : 0 < ys.length := List.length_pos_of_mem hx
    simp; omega
section
variable {l : List Nod} {n : Nat}
theorem upA_vldP (h : ParOk l n) : ∀ {f m : Nat} {c x : Int}, lvA l f c = some m → (c = 0 ∨ (ix l c).isSome = true) → x ∈ upA l m c → (ix l x).isSome = true
  | f, 0, c, x, hm, hc, hx => by simp [upA] at hx
  | f, m + 1, c, x, hm, hc, hx => by
    obtain ⟨h0, h1⟩ := lvA_step hm
    have hc := hc.resolve_left h0
    obtain ⟨_, _, _, _, _, hp⟩ := h.up hc
    rw [upA] at hx
    rcases List.mem_cons.1 hx with rfl | hx
    · exact hc
    · exact upA_vldP h h1 hp hx
theorem upA_nodup {f : Nat} : ∀ {m : Nat} {c : Int}, lvA l f c = some m → (upA l m c).Nodup
  | 0, c, hm => by simp [upA]
  | m + 1, c, hm => by
    obtain ⟨h0, h1⟩ := lvA_step hm
    rw [upA, List.nodup_cons]
    refine ⟨fun hx => ?_, upA_nodup h1⟩
    obtain ⟨j, q1, q2, _⟩ := mem_upA h1 hx
    rw [hm] at q1; cases q1; omega
theorem lvA_bound (h : ParOk l n) {f m : Nat} {c : Int} (hm : lvA l f c = some m) (hc : c = 0 ∨ (ix l c).isSome = true) : m ≤ n := by
  have h1 := nodup_sub (upA l m c) ((List.range n).map (cod l)) (upA_nodup hm) (fun x hx => by
    have := upA_vldP h hm hc hx
    obtain ⟨i, hi, he, _⟩ := h.up this
    exact List.mem_map.2 ⟨i, List.mem_range.2 hi, he⟩)
  rw [upA_length] at h1
  simpa using h1
/-- The j-th above a code. -/
def itC (l : List Nod) : Nat → Int → Int
  | 0, c => c
  | j + 1, c => parC l (itC l j c)
theorem itC_succ (l : List Nod) : ∀ (j : Nat) (c : Int), itC l (j + 1) c = itC l j (parC l c)
  | 0, c => rfl
  | j + 1, c => by rw [itC, itC_succ l j c, ← itC]
theorem upA_snoc (l : List Nod) : ∀ (j : Nat) (c : Int), upA l (j + 1) c = upA l j c ++ [itC l j c]
  | 0, c => rfl
  | j + 1, c => by rw [upA, upA_snoc l j (parC l c), upA, ← itC_succ]; rfl
theorem lvA_it : ∀ {j : Nat} {c : Int}, (∀ i, i ≤ j → itC l i c ≠ 0) → itC l (j + 1) c = 0 → lvA l (j + 1) c = some (j + 1)
  | 0, c, h, hz => by
    have h0 : c ≠ 0 := h 0 (Nat.le_refl _)
    have hz : parC l c = 0 := hz
    rw [lvA, if_neg h0, hz, lvA_zero]; rfl
  | j + 1, c, h, hz => by
    have h0 : c ≠ 0 := h 0 (by omega)
    rw [lvA, if_neg h0, lvA_it (fun i hi => by rw [← itC_succ]; exact h (i + 1) (by omega)) (by rw [← itC_succ]; exact hz)]; rfl
theorem it_zero {f : Nat} : ∀ {k : Nat} {c : Int}, lvA l f c = some k → itC l k c = 0
  | 0, c, h => by
    cases f with
    | zero => unfold lvA at h; split at h; assumption; cases h
    | succ f =>
      unfold lvA at h
      split at h
      · assumption
      · cases hp : lvA l f (parC l c) with
        | none => rw [hp] at h; cases h
        | some j => rw [hp] at h; cases h
  | k + 1, c, h => by
    obtain ⟨h0, h1⟩ := lvA_step h
    rw [itC_succ]; exact it_zero h1
/-- What the reference's above gives. -/
def abvF (l : List Nod) (c : Int) : List Int × Bool := match lvA l l.length c with | some _ => ((upL l c).tail, true) | none => ([], false)
theorem abv_t (h : ParOk l n) {c : Int} (hc : (ix l c).isSome = true) {j : Nat} (h1 : ∀ i, i ≤ j → itC l i c ≠ 0) (h2 : itC l (j + 1) c = 0) : abvF l c = ((upA l (j + 1) c).tail, true) := by
  have e := lvA_it h1 h2
  have hb := lvA_bound h e (.inr hc)
  have e2 : lvA l l.length c = some (j + 1) := lvA_mono e _ (by rw [h.len]; exact hb)
  unfold abvF
  rw [e2]
  dsimp only
  rw [upL, lvl_of e2]
theorem abv_f (h : ParOk l n) {c : Int} {j : Nat} (h1 : ∀ i, i ≤ j → itC l i c ≠ 0) (hj : n ≤ j) : abvF l c = ([], false) := by
  unfold abvF
  cases e : lvA l l.length c with
  | none => rfl
  | some k =>
    have := it_zero e
    have hk := lvA_le e
    exact absurd this (h1 k (by rw [h.len] at hk; omega))
end
def slLen : Value → Nat
  | .slice _ n _ => n
  | _ => 0
/-- A slice and a value. -/
def SlPostV {α : Type} [Rep α] (xs : List α) (v : Value) (φ : Phi) (w : World) (e : Ending) (w' : World) : Prop :=
  ∃ a cap φ', e = .returned (.tuple #[.slice a xs.length cap, v]) ∧ Inv w.heap.size w φ φ' w' ∧ SlV φ' a cap xs

set_option maxRecDepth 100000 in
set_option maxHeartbeats 1000000 in
theorem above_any {w : World} {a : Option Addr} {c n : Nat} {l : List Nod} {φ : Phi} (hφ : Fz φ w) (s : SlV φ a c l) (hok : Hid (ParOk l n)) (x : Int) (hx : (ix l x).isSome = true) :
    Calls Tryz.prog 83 #[.slice a n c, .int .i64 x] w (SlPostV (abvF l x).1 (.bool (abvF l x).2) φ w) := by
  have hn : Hid (l.length = n) := Lib.hid hok.out.len
  have hfr : Hid (FrOk l n) := Lib.hid hok.out.toFrOk
  have hn6 : n ≤ 600 := hok.out.pos.2
  have HX := Lib.hid hx
  clear hx
  obtain ⟨ib, hib, hie, _⟩ := hok.out.up HX.out
  have hxi : Hid (fdI l x = (ib : Int)) := Lib.hid (by rw [← hie]; exact fdI_some (hok.out.ix_of hib))
  have hx0 : Hid (x ≠ 0) := Lib.hid (by have := (hok.out.rng ib hib).1; omega)
  have HIE := Lib.hid hie
  clear hie
  go_enter Tryz.func83, Tryz.ntmps83
  go_wp2_with fail
  refine (find_any hφ s hfr x).mono ?_
  rintro e w1 ⟨rfl, hb⟩
  rw [hxi.out]
  have HB := Lib.hid hb
  clear hb
  have hSt : Hid (OwSt w1 φ 3 none 0 ((upA l 1 x).tail) w1) := Lib.hid ⟨Inv.start (hφ.below HB.out), Own.nil _ _ _ _⟩
  go_wp2
  go_loopw [6, 7] (fun o i wr => ∃ (j k : Nat) (ao : Option Addr) (co : Nat), o = .slice ao j co ∧ i = .int .i64 (k : Int) ∧ k < n ∧ j ≤ n ∧ Hid (cod l k = itC l j x) ∧ Hid (∀ i, i ≤ j → itC l i x ≠ 0) ∧ Hid ((ix l (itC l j x)).isSome = true) ∧ Hid (OwSt w1 φ 3 ao co ((upA l (j + 1) x).tail) wr)) (fun o _ _ => n + 1 - slLen o)
  case atStart => exact ⟨0, ib, none, 0, rfl, rfl, hib, Nat.zero_le _, HIE, Lib.hid (fun i hi => (by obtain rfl : i = 0 := Nat.le_zero.1 hi; exact hx0.out)), HX, hSt⟩
  case round =>
    clear hSt
    obtain ⟨j, k, ao, co, rfl, rfl, hk, hj, hcd, hnz, hvl, hSt⟩ := hrel
    obtain ⟨b, off, rfl, f⟩ := s.nodesD hn hk
    obtain ⟨hb, c1, c2, c3⟩ := f k hk wr hSt.out.inv.fz
    have hpar : Hid ((l.getD k nod0).2.1 = itC l (j + 1) x) := Lib.hid (by
      obtain ⟨i, h1, h2, h3, h4, _⟩ := hok.out.up hvl.out
      have : i = k := hok.out.inj i k h1 hk (h2.trans hcd.out.symm)
      subst this
      exact h4.symm)
    have hpv : Hid (itC l (j + 1) x = 0 ∨ (ix l (itC l (j + 1) x)).isSome = true) := Lib.hid (by obtain ⟨i, _, _, _, _, h5⟩ := hok.out.up hvl.out; exact h5)
    have hki : (k : Int) < n := by omega
    have hki0 : (0 : Int) ≤ (k : Int) := by omega
    have hs1 : Hid ((upA l (j + 1 + 1) x).tail = (upA l (j + 1) x).tail ++ [itC l (j + 1) x]) := Lib.hid (by
      rw [upA_snoc l (j + 1) x, upA]; rfl)
    have hlen : Hid (((upA l (j + 1) x).tail).length = j) := Lib.hid (by rw [List.length_tail, upA_length]; omega)
    have ft := Lib.hid (fun h => abv_t hok.out HX.out hnz.out h)
    have ff := Lib.hid (fun h => abv_f (c := x) (j := j + 1) hok.out h)
    have hnz2 : Hid (itC l (j + 1) x ≠ 0 → ∀ i, i ≤ j + 1 → itC l i x ≠ 0) := Lib.hid (fun h i hi => by
      by_cases e : i = j + 1
      · subst e; exact h
      · exact hnz.out i (by omega))
    have HF := Lib.hid f
    clear f
    rw [hpar.out] at c2
    generalize hpx : itC l (j + 1) x = p at *
    replace hpx := Lib.hid hpx
    by_cases hp0 : p = 0
    · have hg : ((p : Int) != 0) = false := by simp [hp0]
      have e := Lib.hid (ft.out hp0)
      clear hp0
      go_wp2
      obtain ⟨φ', hle, hi, hs, _⟩ := hSt.out.own.release hSt.out.inv
      refine bodyPost_ret (v := .tuple #[.slice ao j co, .bool true]) (by simp [results, Tryz.results83, go_sem]) rfl ⟨ao, co, φ', by rw [e.out]; simp [hlen.out], ((Inv.start hφ).callB HB.out).call hi, by rw [e.out]; exact hs⟩
    · have hg : ((p : Int) != 0) = true := by simp [hp0]
      have H0 := Lib.hid hp0
      have hvp := Lib.hid (hpv.out.resolve_left hp0)
      clear hp0
      obtain ⟨i2, hi2, hie2, _⟩ := hok.out.up hvp.out
      have hfi : Hid (fdI l p = (i2 : Int)) := Lib.hid (by rw [← hie2]; exact fdI_some (hok.out.ix_of hi2))
      have HIE2 := Lib.hid hie2
      have hin := hSt.out.inv
      have hon := hSt.out.own
      clear hie2
      generalize hout : (upA l (j + 1) x).tail = out at *
      have HOUT := Lib.hid hout
      clear hout
      have hol : out.length ≤ 600 := by rw [hlen.out]; omega
      rw [← hlen.out]
      have hrel1 : out.length = j := hlen.out
      by_cases hfull : n < out.length + 1
      · go_wp2_with (at_builtin; refine wpList_app1 (α := Int) rfl _ _ 56 rfl slI hin ao co _ hon _ _ p rfl rfl 1 rfl (by omega) ?_; intro a2 cap2 w2 hi2' hown2 hgr; have e2 := (HF.out k hk w2 hi2'.fz).2.2.1; rw [hpar.out] at e2)
        subst hrel1
        have hS2 : Hid (OwSt w1 φ 3 a2 cap2 (out ++ [p]) w2) := Lib.hid ⟨hi2', hown2⟩
        have e := Lib.hid (ff.out (hnz2.out H0.out) (by omega))
        refine bodyPost_ret (v := .tuple #[.slice none 0 0, .bool false]) (by simp [results, Tryz.results83, go_sem]) rfl ⟨none, 0, φ, by rw [e.out]; rfl, ((Inv.start hφ).callB HB.out).call hS2.out.inv, by rw [e.out]; exact SlV.empty _⟩
      · go_wp2_with (at_builtin; refine wpList_app1 (α := Int) rfl _ _ 56 rfl slI hin ao co _ hon _ _ p rfl rfl 1 rfl (by omega) ?_; intro a2 cap2 w2 hi2' hown2 hgr; have e2 := (HF.out k hk w2 hi2'.fz).2.2.1; rw [hpar.out] at e2)
        have hS2 : Hid (OwSt w1 φ 3 a2 cap2 (out ++ [p]) w2) := Lib.hid ⟨hi2', hown2⟩
        refine (find_any hS2.out.inv.fz s hfr p).mono ?_
        rintro e w3 ⟨rfl, hb3⟩
        have hS3 := Lib.hid (hS2.out.callB hb3)
        rw [hfi.out]
        clear hb3 e2 hi2' hown2 hgr
        subst hrel1
        go_wp2
        go_roundw
        case rel => exact ⟨out.length + 1, i2, a2, cap2, by simp, rfl, hi2, by omega, by rw [hpx.out]; exact HIE2, hnz2.out H0.out, by rw [hpx.out]; exact hvp, by rw [hs1.out]; exact hS3⟩
        case measure => simp [slLen]; omega
end Go.Proofs.YtngogjookldidaaGreatDoor

namespace Go.Proofs.YtngogjookldidaaGreatDoor
open Go.RowKit
set_option linter.unusedVariables false
set_option linter.unusedSimpArgs false

theorem titled_b (s : ByteArray) (w : World) (hs : s.size ≤ 1000000000) {b : Bool} (h : titleB s = b) :
    Calls Tryz.prog 82 #[.string s] w fun e w' => e = .returned (.bool b) ∧ w = w' := by rw [← h]; exact titled_any s w hs
theorem Contains_b (n : Nat) (a : Option Addr) (cap : Nat) (xs : List Int) (x : Int) (w : World) (φ : Phi) (hφ : Fz φ w) (s : SlV φ a cap xs) (hn : Hid (xs.length = n)) (hm : n ≤ 9223372036854775807) {b : Bool} (h : decide (x ∈ xs) = b) :
    Calls Tryz.prog 84 #[.slice a n cap, .int .i64 x] w fun e w' => e = .returned (.bool b) ∧ w = w' := by
  have := Contains_any n a cap xs x w φ hφ s hn hm; rwa [h] at this
section
variable {l : List Nod} {n : Nat}
/-- What the fourth and third tests of a frame ask of the list of those above. -/
theorem abv_loop (h : ParOk l n) {i : Nat} (hi : i < n) : (cyc18 l i ≠ 0 → (abvF l (cod l i)).2 = false ∧ cyc18 l i = 18) ∧ (cyc18 l i = 0 → (abvF l (cod l i)).2 = true ∧ cod l i ∉ (abvF l (cod l i)).1 ∧ (abvF l (cod l i)).1.length + 1 = lvl l (cod l i) ∧ lvl l (cod l i) ≤ n) := by
  unfold cyc18 abvF
  cases e : lvA l l.length (cod l i) with
  | none => simp
  | some m =>
    refine ⟨by simp, fun _ => ⟨rfl, ?_⟩⟩
    have e' : lvA l n (cod l i) = some m := by rw [← h.len]; exact e
    have h0 : cod l i ≠ 0 := by have := (h.rng i hi).1; omega
    obtain ⟨j, rfl⟩ := lvA_pos e' h0
    obtain ⟨e1, e2⟩ := upL_eq h.len e'
    have hnd := upA_nodup e'
    have hle := lvA_le e'
    dsimp only
    rw [e1, upA, List.nodup_cons] at *
    exact ⟨hnd.1, by rw [List.tail_cons, upA_length, e2], by omega⟩
end
theorem abv_len {l : List Nod} {n : Nat} (h : ParOk l n) (c : Int) : (abvF l c).1.length ≤ 600 := by
  unfold abvF
  split
  · next k e =>
    have h1 := lvA_le e
    have h2 := h.len
    have h3 := h.pos.2
    dsimp only
    rw [upL, lvl_of e, List.length_tail, upA_length]; omega
  · simp
theorem treeF_n {l : List Nod} {q : Int} (h : nodesF l = q) (h0 : q ≠ 0) : treeF l = q := by rw [treeF, h, if_pos h0]
set_option maxRecDepth 100000 in
set_option maxHeartbeats 2000000 in
theorem CheckFrame_any (n : Nat) (a : Option Addr) (cap : Nat) (l : List Nod) (w : World) (φ : Phi) (hφ : Fz φ w) (s : SlV φ a cap l) (hn : Hid (l.length = n)) (hm : n ≤ 9223372036854775807) :
    Calls Tryz.prog 55 #[.slice a n cap] w (IntB (treeF l) w) := by
  by_cases z : n = 0
  · have zb : ((n : Int) == 0) = true := by simp [z]
    have Z := Lib.hid z
    clear z
    go_enter Tryz.func55, Tryz.ntmps55
    go_wp2
    go_ret
    exact ⟨ret_int (treeF_n (by rw [nodesF, hn.out, if_pos Z.out]) (by decide)).symm, Below.refl _ _⟩
  have zb : ((n : Int) == 0) = false := by simp; omega
  by_cases hl : 600 < n
  · go_enter Tryz.func55, Tryz.ntmps55
    go_wp2
    go_ret
    exact ⟨ret_int (treeF_n (by rw [nodesF, hn.out, if_neg z, if_pos hl]) (by decide)).symm, Below.refl _ _⟩
  have h0 : 0 < n := by omega
  have z := Lib.hid z
  go_enter Tryz.func55, Tryz.ntmps55
  go_wp2
  clear zb
  go_loopw [25] (fun i wr => ∃ k : Nat, k ≤ n ∧ i = .int .i64 k ∧ Hid (∀ i, i < k → nodeBad l i = 0) ∧ Below w.heap.size w wr) (fun i _ => n - (intOf i).toNat)
  case atStart => exact ⟨0, Nat.zero_le _, rfl, none_yet _, Below.refl _ _⟩
  case round =>
    obtain ⟨k, hk, rfl, hok, hbel⟩ := hrel
    by_cases hlt : k < n
    · obtain ⟨b, off, rfl, f⟩ := s.nodesD hn hlt
      have hf := hφ.below hbel
      obtain ⟨hb, c1, c2, c3⟩ := f k hlt wr hf
      have HP := Lib.hid (fun h : 0 < k => (f (k - 1) (by omega) wr hf).2.1)
      have hbad : Hid (nodeBad l k = _) := Lib.hid (nodeBad.eq_1 l k)
      clear f
      generalize (l.getD k nod0).1 = m at *
      generalize (l.getD k nod0).2.1 = pa at *
      generalize (l.getD k nod0).2.2 = ti at *
      generalize (l.getD (k - 1) nod0).1 = p at *
      have hbel2 : ∀ o, Below w.heap.size w (wr.alloc o) := fun o => hbel.alloc hbel.size o
      obtain ⟨o1, ho1⟩ : ∃ o, Hid (outB m 1 999 = o) := ⟨_, Lib.hid rfl⟩
      obtain ⟨tb, htb⟩ : ∃ o, Hid (titleB ti = o) := ⟨_, Lib.hid rfl⟩
      cases o1
      case true =>
        go_wp2_with fail
        refine (within_b _ _ _ _ ho1.out).mono ?_
        rintro e w' ⟨rfl, rfl⟩
        go_wp2
        go_ret
        exact ⟨ret_int (treeF_n (nodesF_at hn h0 (by omega) hlt hok (by rw [hbad.out, if_pos ho1.out]) (by decide)) (by decide)).symm, hbel2 _⟩
      have e1 : Hid (¬ outB m 1 999 = true) := Lib.hid (by rw [ho1.out]; simp)
      by_cases h3 : 0 < k
      · have hpp := HP.out h3
        have h3i : decide ((0 : Int) < k) = true := decide_eq_true (by omega)
        have hix : 0 ≤ (k : Int) - 1 := by omega
        have hix2 : (k : Int) - 1 < n := by omega
        have hw1 : IntKind.i64.wrap ((k : Int) - 1) = k - 1 := IntWalk.i64_in _ (by omega)
        have hto : ((k : Int) - 1).toNat = k - 1 := by omega
        by_cases h4 : m ≤ p
        · have h4i : decide (m ≤ p) = true := decide_eq_true h4
          go_wp2_with fail
          refine (within_b _ _ _ _ ho1.out).mono ?_
          rintro e w' ⟨rfl, rfl⟩
          go_wp2
          go_quiet (fail)
          clear hw1 hto
          go_wp2
          go_ret
          exact ⟨ret_int (treeF_n (nodesF_at hn h0 (by omega) hlt hok (by rw [hbad.out, if_neg e1.out, if_pos ⟨h3, h4⟩]) (by decide)) (by decide)).symm, bdrewN (hbel2 _) _⟩
        · have h4i : decide (m ≤ p) = false := decide_eq_false h4
          have e2 : Hid (¬ (0 < k ∧ m ≤ p)) := Lib.hid (fun h => h4 h.2)
          go_wp2_with fail
          refine (within_b _ _ _ _ ho1.out).mono ?_
          rintro e w' ⟨rfl, rfl⟩
          go_wp2
          go_quiet (fail)
          clear hw1 hto
          by_cases h5 : 60 < ti.size
          · go_wp2
            go_ret
            exact ⟨ret_int (treeF_n (nodesF_at hn h0 (by omega) hlt hok (by rw [hbad.out, if_neg e1.out, if_neg e2.out, if_pos h5]) (by decide)) (by decide)).symm, bdrewN (hbel2 _) _⟩
          · have hts : ti.size ≤ 1000000000 := by omega
            cases tb
            · go_wp2_with fail
              refine (titled_b _ _ hts htb.out).mono ?_
              rintro e w' ⟨rfl, rfl⟩
              go_wp2
              go_ret
              exact ⟨ret_int (treeF_n (nodesF_at hn h0 (by omega) hlt hok (by rw [hbad.out, if_neg e1.out, if_neg e2.out, if_neg h5, if_pos htb.out]) (by decide)) (by decide)).symm, bdrewN (hbel2 _) _⟩
            · go_wp2_with fail
              refine (titled_b _ _ hts htb.out).mono ?_
              rintro e w' ⟨rfl, rfl⟩
              go_wp2
              go_roundw
              case rel => exact ⟨k + 1, by omega, by go_num, next_ok hok (by rw [hbad.out, if_neg e1.out, if_neg e2.out, if_neg h5, if_neg (by rw [htb.out]; simp)]), bdrewN (hbel2 _) _⟩
              case measure => (simp [intOf] <;> omega)
      · have h3i : decide ((0 : Int) < k) = false := decide_eq_false (by omega)
        have e2 : Hid (¬ (0 < k ∧ m ≤ p)) := Lib.hid (fun h => h3 h.1)
        go_wp2_with fail
        refine (within_b _ _ _ _ ho1.out).mono ?_
        rintro e w' ⟨rfl, rfl⟩
        go_wp2
        go_quiet (fail)
        by_cases h5 : 60 < ti.size
        · go_wp2
          go_ret
          exact ⟨ret_int (treeF_n (nodesF_at hn h0 (by omega) hlt hok (by rw [hbad.out, if_neg e1.out, if_neg e2.out, if_pos h5]) (by decide)) (by decide)).symm, bdrewN (hbel2 _) _⟩
        · have hts : ti.size ≤ 1000000000 := by omega
          cases tb
          · go_wp2_with fail
            refine (titled_b _ _ hts htb.out).mono ?_
            rintro e w' ⟨rfl, rfl⟩
            go_wp2
            go_ret
            exact ⟨ret_int (treeF_n (nodesF_at hn h0 (by omega) hlt hok (by rw [hbad.out, if_neg e1.out, if_neg e2.out, if_neg h5, if_pos htb.out]) (by decide)) (by decide)).symm, bdrewN (hbel2 _) _⟩
          · go_wp2_with fail
            refine (titled_b _ _ hts htb.out).mono ?_
            rintro e w' ⟨rfl, rfl⟩
            go_wp2
            go_roundw
            case rel => exact ⟨k + 1, by omega, by go_num, next_ok hok (by rw [hbad.out, if_neg e1.out, if_neg e2.out, if_neg h5, if_neg (by rw [htb.out]; simp)]), bdrewN (hbel2 _) _⟩
            case measure => (simp [intOf] <;> omega)
    · obtain rfl : k = n := by omega
      clear hlt hk
      have hN : Hid (nodesF l = 0) := Lib.hid (nodesF_ok hn h0 (by omega) hok)
      have HOK : Hid (FrOk l k) := Lib.hid (by have := nodesF_zero hN.out; rwa [hn.out] at this)
      rename Nat => n
      clear hok
      have hB1 := Lib.hid hbel
      clear hbel
      go_wp2
      go_loopw [62] (fun i wr => ∃ k : Nat, k ≤ n ∧ i = .int .i64 k ∧ Hid (∀ i, i < k → par5 l i = 0) ∧ Below w.heap.size w wr) (fun i _ => n - (intOf i).toNat)
      case atStart => exact ⟨0, Nat.zero_le _, rfl, none_yet _, hB1.out⟩
      case round =>
        clear hB1
        obtain ⟨k, hk, rfl, hok, hbel⟩ := hrel
        by_cases hlt : k < n
        · obtain ⟨b, off, rfl, f⟩ := s.nodesD hn hlt
          have hf := hφ.below hbel
          obtain ⟨hb, c1, c2, c3⟩ := f k hlt wr hf
          have hbad : Hid (par5 l k = _) := Lib.hid (par5.eq_1 l k)
          have hpe : Hid (par0 l k = (l.getD k nod0).2.1) := Lib.hid rfl
          rw [hpe.out] at hbad
          clear f
          generalize (l.getD k nod0).1 = m at *
          generalize (l.getD k nod0).2.1 = pa at *
          generalize (l.getD k nod0).2.2 = ti at *
          have hbel2 : ∀ o, Below w.heap.size w (wr.alloc o) := fun o => hbel.alloc hbel.size o
          by_cases hp0 : pa = 0
          · have hg : ((pa : Int) != 0) = false := by simp [hp0]
            have H0 := Lib.hid hp0
            clear hp0
            go_wp2
            go_roundw
            case rel => exact ⟨k + 1, by omega, by go_num, next_ok hok (by rw [hbad.out, if_neg (fun h => h.1 H0.out)]), hbel2 _⟩
            case measure => (simp [intOf] <;> omega)
          · have hg : ((pa : Int) != 0) = true := by simp [hp0]
            have H0 := Lib.hid hp0
            clear hp0
            have hbx := hbel2 (.cells #[.int .i64 m, .int .i64 pa, .string ti] 51)
            have HBX := Lib.hid hbx
            clear hbx hbel2
            obtain ⟨q, hq⟩ : ∃ q, Hid (ix l pa = q) := ⟨_, Lib.hid rfl⟩
            cases q with
            | none =>
              go_wp2_with fail
              refine (find_any (hφ.below HBX.out) s HOK pa).mono ?_
              rintro e w1 ⟨rfl, hb1⟩
              have HB1 := Lib.hid (HBX.out.trans (hb1.mono HBX.out.size))
              rw [fdI_none hq.out]
              clear hb1
              have e5 : Hid (par5 l k = 5) := Lib.hid (by rw [hbad.out, if_pos ⟨H0.out, hq.out⟩])
              go_wp2
              go_ret
              exact ⟨ret_int (treeF_5 hN.out hn.out hok.out hlt e5.out).symm, HB1.out⟩
            | some i =>
              go_wp2_with fail
              refine (find_any (hφ.below HBX.out) s HOK pa).mono ?_
              rintro e w1 ⟨rfl, hb1⟩
              have HB1 := Lib.hid (HBX.out.trans (hb1.mono HBX.out.size))
              rw [fdI_some hq.out]
              have hi0 : decide ((i : Int) < 0) = false := decide_eq_false (by omega)
              clear hb1
              go_wp2
              go_roundw
              case rel => exact ⟨k + 1, by omega, by go_num, next_ok hok (by rw [hbad.out, if_neg (fun h => by have := h.2; rw [hq.out] at this; cases this)]), HB1.out⟩
              case measure => (simp [intOf] <;> omega)
        · obtain rfl : k = n := by omega
          rename Nat => n
          clear hlt hk
          have H5 := hok
          have HPK : Hid (ParOk l n) := Lib.hid (par_of HOK.out hok.out)
          clear hok
          have hB1 := Lib.hid hbel
          clear hbel
          go_wp2
          go_loopw [79] (fun i wr => ∃ k : Nat, k ≤ n ∧ i = .int .i64 k ∧ Hid (∀ i, i < k → cyc18 l i = 0) ∧ Below w.heap.size w wr) (fun i _ => n - (intOf i).toNat)
          case atStart => exact ⟨0, Nat.zero_le _, rfl, none_yet _, hB1.out⟩
          case round =>
            clear hB1
            obtain ⟨k, hk, rfl, hok, hbel⟩ := hrel
            by_cases hlt : k < n
            · obtain ⟨b, off, rfl, f⟩ := s.nodesD hn hlt
              have hf := hφ.below hbel
              obtain ⟨hb, c1, c2, c3⟩ := f k hlt wr hf
              have hme : Hid ((l.getD k nod0).1 = (l.getD k nod0).1) := Lib.hid rfl
              have HLP : Hid ((cyc18 l k ≠ 0 → (abvF l (l.getD k nod0).1).2 = false ∧ cyc18 l k = 18) ∧ (cyc18 l k = 0 → (abvF l (l.getD k nod0).1).2 = true ∧ (l.getD k nod0).1 ∉ (abvF l (l.getD k nod0).1).1 ∧ (abvF l (l.getD k nod0).1).1.length + 1 = lvl l (l.getD k nod0).1 ∧ lvl l (l.getD k nod0).1 ≤ n)) := Lib.hid (abv_loop HPK.out hlt)
              have hvl : Hid ((ix l (l.getD k nod0).1).isSome = true) := Lib.hid (by have := HOK.out.ix_of hlt; rw [show (l.getD k nod0).1 = cod l k from rfl, this]; rfl)
              have hlen : Hid ((abvF l (l.getD k nod0).1).1.length ≤ 600) := Lib.hid (abv_len HPK.out _)
              clear f
              generalize hmm : (l.getD k nod0).1 = m at *
              replace hme := Lib.hid hmm
              clear hmm
              generalize (l.getD k nod0).2.1 = pa at *
              generalize (l.getD k nod0).2.2 = ti at *
              have HBX := Lib.hid (hbel.alloc hbel.size (.cells #[.int .i64 m, .int .i64 pa, .string ti] 51))
              by_cases hc : cyc18 l k = 0
              · obtain ⟨r1, r2, _, _⟩ := HLP.out.2 hc
                have HC := Lib.hid hc
                have R2 := Lib.hid r2
                have R1 := Lib.hid r1
                clear hc r1 r2
                go_wp2_with fail
                refine (above_any (hφ.below HBX.out) s HPK m hvl.out).mono ?_
                rintro e w1 ⟨au, cu, φ1, rfl, hi1, su⟩
                have x0 : w1.cell? ⟨wr.heap.size, 0, none⟩ = some (.int .i64 m) := (hi1.bel.cell (p := ⟨wr.heap.size, 0, none⟩) (by simp)).trans (box_at 0)
                have I1 := Lib.hid hi1
                have HB1 := Lib.hid (HBX.out.trans (hi1.bel.mono HBX.out.size))
                clear hi1
                obtain ⟨nu, hnu⟩ : ∃ nu, Hid ((abvF l m).1.length = nu) := ⟨_, Lib.hid rfl⟩
                rw [R1.out, hnu.out]
                have hnu2 : nu ≤ 600 := by rw [← hnu.out]; exact hlen.out
                go_wp2_with fail
                refine (Contains_f nu au cu _ m _ _ I1.out.fz su hnu (by omega) R2.out).mono ?_
                rintro e w' ⟨rfl, rfl⟩
                go_wp2
                go_roundw
                case rel => exact ⟨k + 1, by omega, by go_num, next_ok hok HC.out, HB1.out⟩
                case measure => (simp [intOf] <;> omega)
              · obtain ⟨r1, r2⟩ := HLP.out.1 hc
                have R2 := Lib.hid r2
                have R1 := Lib.hid r1
                clear hc r1 r2
                go_wp2_with fail
                refine (above_any (hφ.below HBX.out) s HPK m hvl.out).mono ?_
                rintro e w1 ⟨au, cu, φ1, rfl, hi1, su⟩
                have x0 : w1.cell? ⟨wr.heap.size, 0, none⟩ = some (.int .i64 m) := (hi1.bel.cell (p := ⟨wr.heap.size, 0, none⟩) (by simp)).trans (box_at 0)
                have I1 := Lib.hid hi1
                have HB1 := Lib.hid (HBX.out.trans (hi1.bel.mono HBX.out.size))
                clear hi1
                rw [R1.out]
                go_wp2
                go_ret
                exact ⟨ret_int (treeF_18 hN.out hn.out H5.out hok.out hlt R2.out).symm, HB1.out⟩
            · obtain rfl : k = n := by omega
              rename Nat => n
              clear hlt hk
              have H18 := hok
              clear hok
              have hB1 := Lib.hid hbel
              clear hbel
              go_wp2
              go_loopw [101] (fun i wr => ∃ k : Nat, k ≤ n ∧ i = .int .i64 k ∧ Hid (∀ i, i < k → deep2 l i = 0) ∧ Below w.heap.size w wr) (fun i _ => n - (intOf i).toNat)
              case atStart => exact ⟨0, Nat.zero_le _, rfl, none_yet _, hB1.out⟩
              case round =>
                clear hB1
                obtain ⟨k, hk, rfl, hok, hbel⟩ := hrel
                by_cases hlt : k < n
                · obtain ⟨b, off, rfl, f⟩ := s.nodesD hn hlt
                  have hf := hφ.below hbel
                  obtain ⟨hb, c1, c2, c3⟩ := f k hlt wr hf
                  have hme : Hid ((l.getD k nod0).1 = (l.getD k nod0).1) := Lib.hid rfl
                  have HLP : Hid ((cyc18 l k ≠ 0 → (abvF l (l.getD k nod0).1).2 = false ∧ cyc18 l k = 18) ∧ (cyc18 l k = 0 → (abvF l (l.getD k nod0).1).2 = true ∧ (l.getD k nod0).1 ∉ (abvF l (l.getD k nod0).1).1 ∧ (abvF l (l.getD k nod0).1).1.length + 1 = lvl l (l.getD k nod0).1 ∧ lvl l (l.getD k nod0).1 ≤ n)) := Lib.hid (abv_loop HPK.out hlt)
                  have hvl : Hid ((ix l (l.getD k nod0).1).isSome = true) := Lib.hid (by have := HOK.out.ix_of hlt; rw [show (l.getD k nod0).1 = cod l k from rfl, this]; rfl)
                  have hlen : Hid ((abvF l (l.getD k nod0).1).1.length ≤ 600) := Lib.hid (abv_len HPK.out _)
                  clear f
                  generalize hmm : (l.getD k nod0).1 = m at *
                  replace hme := Lib.hid hmm
                  clear hmm
                  generalize (l.getD k nod0).2.1 = pa at *
                  generalize (l.getD k nod0).2.2 = ti at *
                  have HBX := Lib.hid (hbel.alloc hbel.size (.cells #[.int .i64 m, .int .i64 pa, .string ti] 51))
                  obtain ⟨_, _, r3, r4⟩ := HLP.out.2 (H18.out k hlt)
                  have R3 := Lib.hid r3
                  have hdp : Hid (deep2 l k = if 8 < lvl l m then 2 else 0) := Lib.hid (by unfold deep2; rw [show cod l k = m from hme.out])
                  clear r3
                  go_wp2_with fail
                  refine (above_any (hφ.below HBX.out) s HPK m hvl.out).mono ?_
                  rintro e w1 ⟨au, cu, φ1, rfl, hi1, su⟩
                  have x0 : w1.cell? ⟨wr.heap.size, 0, none⟩ = some (.int .i64 m) := (hi1.bel.cell (p := ⟨wr.heap.size, 0, none⟩) (by simp)).trans (box_at 0)
                  have I1 := Lib.hid hi1
                  have HB1 := Lib.hid (HBX.out.trans (hi1.bel.mono HBX.out.size))
                  clear hi1
                  obtain ⟨nu, hnu⟩ : ∃ nu, Hid ((abvF l m).1.length = nu) := ⟨_, Lib.hid rfl⟩
                  rw [hnu.out]
                  have hnl : Hid (nu + 1 = lvl l m) := Lib.hid (by rw [← hnu.out]; exact R3.out)
                  by_cases h8 : 8 ≤ nu
                  · have e2 : Hid (deep2 l k = 2) := Lib.hid (by rw [hdp.out, if_pos (by rw [← hnl.out]; omega)])
                    go_wp2
                    go_ret
                    exact ⟨ret_int (treeF_2 hN.out hn.out H5.out H18.out hok.out hlt e2.out).symm, HB1.out⟩
                  · have e2 : Hid (deep2 l k = 0) := Lib.hid (by rw [hdp.out, if_neg (by rw [← hnl.out]; omega)])
                    go_wp2
                    go_roundw
                    case rel => exact ⟨k + 1, by omega, by go_num, next_ok hok e2.out, HB1.out⟩
                    case measure => (simp [intOf] <;> omega)
                · obtain rfl : k = n := by omega
                  go_wp2
                  go_ret
                  exact ⟨ret_int (treeF_0 hN.out hn.out H5.out H18.out hok.out).symm, hbel⟩
end Go.Proofs.YtngogjookldidaaGreatDoor

namespace Go.Proofs.YtngogjookldidaaGreatDoor
open Go.RowKit
set_option linter.unusedVariables false
set_option linter.unusedSimpArgs false

theorem meet_at {l : List Nod} {a b : Int} {xs : List Int} {n k : Nat} (hx : xs = upL l a ++ [0]) (hn : xs.length = n) (hk : k < n) (hz : ∀ i, i < k → ¬ (xs.getD i 0 = 0 ∨ xs.getD i 0 ∈ upL l b)) (hp : xs.getD k 0 = 0 ∨ xs.getD k 0 ∈ upL l b) : meetOf l a b = xs.getD k 0 := by
  have hk' : k < xs.length := by omega
  have : xs.find? (fun x => decide (x = 0 ∨ x ∈ upL l b)) = some (xs.getD k 0) := by
    rw [List.find?_eq_some_iff_getElem]
    refine ⟨by simpa using hp, k, hk', by rw [getD_elem0 _ _ _ hk'], fun j hj => ?_⟩
    have := hz j hj
    rw [getD_elem0 _ _ _ (by omega)] at this
    simpa using this
  unfold meetOf
  rw [← hx, this]; rfl
theorem lvF_at {l : List Nod} {n : Nat} (h : TrOk l n) {c : Int} (hc : c = 0 ∨ (ix l c).isSome = true) : lvF l c = some (lvl l c : Int) ∧ lvl l c ≤ 8 := by
  rcases hc with rfl | hc
  · rw [lvl_zero]; unfold lvF lvK; simp
  · obtain ⟨i, hi, he, _⟩ := h.up hc
    obtain ⟨m, hm, h8⟩ := h.lev i hi
    have := lvF_of h.toFrOk hi hm
    rw [he] at this hm
    rw [lvl_of (by rw [h.len]; exact hm)]
    exact ⟨this, h8⟩
theorem upA_vld {l : List Nod} {n : Nat} (h : TrOk l n) : ∀ {m : Nat} {c x : Int}, lvA l n c = some m → (c = 0 ∨ (ix l c).isSome = true) → x ∈ upA l m c → (ix l x).isSome = true
  | 0, c, x, hm, hc, hx => by simp [upA] at hx
  | m + 1, c, x, hm, hc, hx => by
    obtain ⟨h0, h1⟩ := lvA_step hm
    have hc := hc.resolve_left h0
    obtain ⟨_, _, _, _, _, hp⟩ := h.up hc
    rw [upA] at hx
    rcases List.mem_cons.1 hx with rfl | hx
    · exact hc
    · exact upA_vld h h1 hp hx
theorem upL_vld {l : List Nod} {n : Nat} (h : TrOk l n) {c x : Int} (hc : c = 0 ∨ (ix l c).isSome = true) (hx : x ∈ upL l c) : (ix l x).isSome = true := by
  obtain ⟨m, hm, _⟩ := h.lv hc
  rw [(upL_eq h.len hm).1] at hx
  exact upA_vld h hm hc hx
theorem upL_len {l : List Nod} {n : Nat} (h : TrOk l n) {c : Int} (hc : c = 0 ∨ (ix l c).isSome = true) : (upL l c).length ≤ 8 := by
  obtain ⟨m, hm, h8⟩ := h.lv hc
  rw [(upL_eq h.len hm).1]
  have : ∀ (m : Nat) (c : Int), (upA l m c).length = m := by
    intro m
    induction m with
    | zero => intro c; rfl
    | succ m ih => intro c; rw [upA, List.length_cons, ih]
  rw [this]; exact h8

theorem code_lv {l : List Nod} {n : Nat} (h : TrOk l n) {c : Int} (hc : (ix l c).isSome = true) : (∃ m, lvA l n c = some m ∧ m ≤ 8) ∧ c ≠ 0 := by
  refine ⟨h.lv (.inr hc), ?_⟩
  obtain ⟨i, hi, he, _⟩ := h.up hc
  have := (h.rng i hi).1
  omega
theorem lvl_par {l : List Nod} {n : Nat} (h : TrOk l n) {c : Int} (hc : (ix l c).isSome = true) : lvl l c = lvl l (parC l c) + 1 ∧ upL l c = c :: upL l (parC l c) := by
  obtain ⟨⟨m, hm, _⟩, h0⟩ := code_lv h hc
  obtain ⟨j, rfl⟩ := lvA_pos hm h0
  have h1 := (lvA_step hm).2
  obtain ⟨e1, e2⟩ := upL_eq h.len hm
  obtain ⟨e3, e4⟩ := upL_eq h.len h1
  exact ⟨by omega, by rw [e1, e3, upA]⟩

set_option maxHeartbeats 1000000 in
theorem meeting_any {w : World} {bt : Nat} {a : Option Addr} {c n m1 m2 : Nat} {l : List Nod} {φ : Phi} (hφ : Fz φ w) (s : SlV φ a c l) (ht : TreeW w bt a c n m1 m2 (atF l) (lvF l)) (hok : Hid (TrOk l n)) (x y : Int) (hx : (ix l x).isSome = true) (hy : (ix l y).isSome = true) :
    Calls Tryz.prog 76 #[.pointer (some ⟨bt, 0, none⟩), .int .i64 x, .int .i64 y] w fun e w' => e = .returned (.tuple #[.int .i64 (meetOf l x y), .int .i64 (distOf l x y)]) ∧ Below w.heap.size w w' := by
  have hn : Hid (l.length = n) := Lib.hid hok.out.len
  have HT := Lib.hid ht
  have HX := Lib.hid hx
  have HY := Lib.hid hy
  clear ht hx hy
  go_enter Tryz.func76, Tryz.ntmps76
  go_wp2_with fail
  refine (up_any hφ s HT.out hok y (.inr HY.out)).mono ?_
  rintro e w1 ⟨ay, cy, φ1, rfl, hi1, ho1⟩
  obtain ⟨φ2, hle, hi2, sy, _⟩ := ho1.release hi1
  have I2 := Lib.hid hi2
  have HT2 := Lib.hid (HT.out.callB hi2.bel)
  have s2 := s.mono (hi2.le)
  have hly := upL_len hok.out (.inr HY.out)
  obtain ⟨ny, hny⟩ : ∃ ny, Hid ((upL l y).length = ny) := ⟨_, Lib.hid rfl⟩
  rw [hny.out] at hly ⊢
  clear hi1 ho1 hi2 hle
  go_wp2_with fail
  refine (up_any I2.out.fz s2 HT2.out hok x (.inr HX.out)).mono ?_
  rintro e w3 ⟨ax, cx, φ3, rfl, hi3, ho3⟩
  have hlx := upL_len hok.out (.inr HX.out)
  obtain ⟨xs0, hxs0⟩ : ∃ xs0, Hid (upL l x = xs0) := ⟨_, Lib.hid rfl⟩
  rw [hxs0.out] at hlx ho3 ⊢
  go_wp2_with (at_builtin; refine wpList_app1 (α := Int) rfl _ _ 56 rfl slI hi3 ax cx _ ho3 _ _ 0 rfl rfl 1 rfl (by omega) ?_; intro a2 cap2 w4 hi4 hown4 hgr)
  obtain ⟨φ5, hle5, hi5, sx, _⟩ := hown4.release hi4
  have I5 := Lib.hid (I2.out.call hi5)
  have HT5 := Lib.hid (HT2.out.callB hi5.bel)
  have sy5 := sy.mono hi5.le
  obtain ⟨xs, hxs⟩ : ∃ xs, Hid (xs0 ++ [0] = xs) := ⟨_, Lib.hid rfl⟩
  have hxl : Hid (xs.length = xs0.length + 1) := Lib.hid (by rw [← hxs.out]; simp)
  rw [hxs.out] at sx
  have hfz := Lib.hid (I5.out.fz)
  clear hi3 ho3 hi4 hown4 hgr hi5 hle5
  generalize hnx : xs0.length + 1 = nx at *
  go_wp2
  go_loopw [20] (fun i wr => ∃ k : Nat, k ≤ nx ∧ i = .int .i64 k ∧ Hid (∀ i, i < k → ¬ (xs.getD i 0 = 0 ∨ xs.getD i 0 ∈ upL l y)) ∧ wr = w4) (fun i _ => nx - (intOf i).toNat)
  case atStart => exact ⟨0, Nat.zero_le _, by simp, Lib.hid (fun i hi => by omega), rfl⟩
  case round =>
    obtain ⟨k, hk, rfl, hz, rfl⟩ := hrel
    have hxe : Hid (xs = upL l x ++ [0]) := Lib.hid (by rw [hxs0.out, hxs.out])
    have hlt : k < nx := by
      rcases Nat.lt_or_ge k nx with h | h
      · exact h
      · exfalso
        have h0 : xs.getD (nx - 1) 0 = 0 := by rw [← hxs.out, ← hnx]; simp
        exact hz.out (nx - 1) (by omega) (.inl h0)
    obtain ⟨b, off, rfl, f⟩ := sx.intsD hxl hlt
    obtain ⟨hb, c1⟩ := f k hlt _ hfz.out
    clear f
    have hme : Hid ((xs.getD k 0 = 0 ∨ xs.getD k 0 ∈ upL l y) → meetOf l x y = xs.getD k 0) := Lib.hid (fun h => meet_at hxe.out hxl.out hlt hz.out h)
    have hvl : Hid (xs.getD k 0 = 0 ∨ (ix l (xs.getD k 0)).isSome = true) := Lib.hid (by
      by_cases h0 : xs.getD k 0 = 0
      · exact .inl h0
      · have : xs.getD k 0 ∈ xs := by rw [getD_elem0 _ _ _ (by rw [hxl.out]; exact hlt)]; exact List.getElem_mem _
        have hmem : ∀ v, v ∈ xs → v ∈ upL l x ∨ v = 0 := fun v hv => by rw [hxe.out] at hv; simpa using hv
        rcases hmem _ this with h1 | h1
        · exact .inr (upL_vld hok.out (.inr HX.out) h1)
        · exact absurd h1 h0)
    have hnz : Hid (¬ (xs.getD k 0 = 0 ∨ xs.getD k 0 ∈ upL l y) → ∀ i, i < k + 1 → ¬ (xs.getD i 0 = 0 ∨ xs.getD i 0 ∈ upL l y)) := Lib.hid (fun h i hi => by
      by_cases e : i = k
      · subst e; exact h
      · exact hz.out i (by omega))
    have hxx : Hid (xs.getD k 0 = xs.getD k 0) := Lib.hid rfl
    clear hz
    generalize xs.getD k 0 = z at *
    have fin : Hid ((z = 0 ∨ z ∈ upL l y) → ∃ lx ly lz : Nat, lx ≤ 8 ∧ ly ≤ 8 ∧ lz ≤ 8 ∧ lvF l x = some (lx : Int) ∧ lvF l y = some (ly : Int) ∧ lvF l z = some (lz : Int) ∧ distOf l x y = (lx : Int) + ly - 2 * lz) := Lib.hid (fun h => by
      have q1 := lvF_at hok.out (.inr HX.out)
      have q2 := lvF_at hok.out (.inr HY.out)
      have q3 := lvF_at hok.out hvl.out
      exact ⟨_, _, _, q1.2, q2.2, q3.2, q1.1, q2.1, q3.1, by rw [distOf, hme.out h]⟩)
    by_cases h0 : z = 0
    · have P : Hid (z = 0 ∨ z ∈ upL l y) := Lib.hid (.inl h0)
      have hg : ((z : Int) == 0) = true := by simp [h0]
      clear h0
      obtain ⟨lx, ly, lz, b1, b2, b3, q1, q2, q3, hd⟩ := fin.out P.out
      replace hd := Lib.hid hd
      replace q1 := Lib.hid q1
      replace q2 := Lib.hid q2
      replace q3 := Lib.hid q3
      have e2 := HT5.out.blk.cell 2
      simp at e2
      have HL1 : ∀ q, (Instr.lookup 53 (.map (some m2)) (.int .i64 x) false).run Tryz.prog (wr.drewN q) = .ok (.int .i64 (lx : Int)) (wr.drewN q) := fun q => by have := (HT5.out.lev.drewN q).look_no x; rwa [q1.out] at this
      have HL2 : ∀ q, (Instr.lookup 53 (.map (some m2)) (.int .i64 y) false).run Tryz.prog (wr.drewN q) = .ok (.int .i64 (ly : Int)) (wr.drewN q) := fun q => by have := (HT5.out.lev.drewN q).look_no y; rwa [q2.out] at this
      have HL3 : ∀ q, (Instr.lookup 53 (.map (some m2)) (.int .i64 z) false).run Tryz.prog (wr.drewN q) = .ok (.int .i64 (lz : Int)) (wr.drewN q) := fun q => by have := (HT5.out.lev.drewN q).look_no z; rwa [q3.out] at this
      have w1e : IntKind.i64.wrap ((lx : Int) + ly) = lx + ly := IntWalk.i64_in _ (by omega)
      have w2e : IntKind.i64.wrap (2 * (lz : Int)) = 2 * lz := IntWalk.i64_in _ (by omega)
      have w3e : IntKind.i64.wrap ((lx : Int) + ly - 2 * lz) = lx + ly - 2 * lz := IntWalk.i64_in _ (by omega)
      have w4e : True := trivial
      go_wp2
      go_quiet (fail)
      clear HL1 HL2 HL3 w1e w2e w3e w4e
      go_wp2
      go_ret2
      exact ⟨by rw [hme.out P.out, hd.out]; rfl, bdrewN I5.out.bel _⟩
    have hg : ((z : Int) == 0) = false := by simp [h0]
    have H0 := Lib.hid h0
    clear h0
    by_cases hin : z ∈ upL l y
    · have P : Hid (z = 0 ∨ z ∈ upL l y) := Lib.hid (.inr hin)
      have HIN := Lib.hid hin
      clear hin
      go_wp2_with fail
      refine (Contains_t ny ay cy (upL l y) z _ _ hfz.out sy5 hny (by omega) HIN.out).mono ?_
      rintro e w' ⟨rfl, rfl⟩
      obtain ⟨lx, ly, lz, b1, b2, b3, q1, q2, q3, hd⟩ := fin.out P.out
      replace hd := Lib.hid hd
      replace q1 := Lib.hid q1
      replace q2 := Lib.hid q2
      replace q3 := Lib.hid q3
      have e2 := HT5.out.blk.cell 2
      simp at e2
      have HL1 : ∀ q, (Instr.lookup 53 (.map (some m2)) (.int .i64 x) false).run Tryz.prog (wr.drewN q) = .ok (.int .i64 (lx : Int)) (wr.drewN q) := fun q => by have := (HT5.out.lev.drewN q).look_no x; rwa [q1.out] at this
      have HL2 : ∀ q, (Instr.lookup 53 (.map (some m2)) (.int .i64 y) false).run Tryz.prog (wr.drewN q) = .ok (.int .i64 (ly : Int)) (wr.drewN q) := fun q => by have := (HT5.out.lev.drewN q).look_no y; rwa [q2.out] at this
      have HL3 : ∀ q, (Instr.lookup 53 (.map (some m2)) (.int .i64 z) false).run Tryz.prog (wr.drewN q) = .ok (.int .i64 (lz : Int)) (wr.drewN q) := fun q => by have := (HT5.out.lev.drewN q).look_no z; rwa [q3.out] at this
      have w1e : IntKind.i64.wrap ((lx : Int) + ly) = lx + ly := IntWalk.i64_in _ (by omega)
      have w2e : IntKind.i64.wrap (2 * (lz : Int)) = 2 * lz := IntWalk.i64_in _ (by omega)
      have w3e : IntKind.i64.wrap ((lx : Int) + ly - 2 * lz) = lx + ly - 2 * lz := IntWalk.i64_in _ (by omega)
      have w4e : True := trivial
      go_wp2
      go_quiet (fail)
      clear HL1 HL2 HL3 w1e w2e w3e w4e
      go_wp2
      go_ret2
      exact ⟨by rw [hme.out P.out, hd.out]; rfl, bdrewN I5.out.bel _⟩
    · have HIN := Lib.hid hin
      clear hin
      go_wp2_with fail
      refine (Contains_f ny ay cy (upL l y) z _ _ hfz.out sy5 hny (by omega) HIN.out).mono ?_
      rintro e w' ⟨rfl, rfl⟩
      go_wp2
      go_roundw
      case rel => exact ⟨k + 1, by omega, by go_num, Lib.hid (hnz.out (fun h => h.elim H0.out HIN.out)), trivial⟩
      case measure => simp [intOf]; omega

theorem pair_row {w : World} {φ : Phi} (hφ : Fz φ w) (x y : Int) (T : TypeId) : ∃ φ', φ.le φ' ∧ Fz φ' (w.alloc (.cells #[.int .i64 x, .int .i64 y] T)) ∧ SlV φ' (some ⟨w.heap.size, 0, none⟩) 2 [x, y] := by
  have hnone : φ w.heap.size = none := by
    cases h : φ w.heap.size with
    | none => rfl
    | some o => have := hφ.mlt h; omega
  refine ⟨φ.upd w.heap.size (.cells #[.int .i64 x, .int .i64 y] T), φ.le_upd _ _ hnone, (hφ.alloc _).upd (heap_alloc_new w _), ⟨by simp, by simp [maxLen], fun h => (by cases h), fun _ => ⟨w.heap.size, 0, rfl, fun k hk => ?_⟩⟩⟩
  have hk2 : k = 0 ∨ k = 1 := by simp at hk; omega
  rcases hk2 with rfl | rfl
  · refine ⟨[.int .i64 x], rfl, fun j hj => ?_⟩
    have : j = 0 := by simp at hj; omega
    subst this
    simp [Phi.cell?, Phi.upd, Rep.size]
  · refine ⟨[.int .i64 y], rfl, fun j hj => ?_⟩
    have : j = 0 := by simp at hj; omega
    subst this
    simp [Phi.cell?, Phi.upd, Rep.size]
noncomputable def meetF (l : List Nod) (x y : Int) : Int × Int × Int := if codedF l [x, y] ≠ 0 then (0, 0, codedF l [x, y]) else (meetOf l x y, distOf l x y, 0)
def tup3 (r : Int × Int × Int) : Value := .tuple #[.int .i64 r.1, .int .i64 r.2.1, .int .i64 r.2.2]

end Go.Proofs.YtngogjookldidaaGreatDoor

namespace Go.Proofs.YtngogjookldidaaGreatDoor
open Go.RowKit
set_option linter.unusedVariables false
set_option linter.unusedSimpArgs false

theorem TrOk.toPar {l : List Nod} {n : Nat} (h : TrOk l n) : ParOk l n := ⟨h.toFrOk, h.par⟩
theorem abv_tr {l : List Nod} {n : Nat} (h : TrOk l n) {c : Int} (hc : (ix l c).isSome = true) : abvF l c = ((upL l c).tail, true) ∧ upL l c = c :: (upL l c).tail := by
  obtain ⟨⟨m, hm, _⟩, h0⟩ := code_lv h hc
  unfold abvF
  rw [h.len, hm]
  refine ⟨rfl, ?_⟩
  rw [(lvl_par h hc).2]; rfl
set_option maxHeartbeats 400000 in
theorem lineage_own {w : World} {a : Option Addr} {c n : Nat} {l : List Nod} {φ : Phi} (hφ : Fz φ w) (s : SlV φ a c l) (hok : Hid (TrOk l n)) (x : Int) (hx : (ix l x).isSome = true) :
    Calls Tryz.prog 85 #[.slice a n c, .int .i64 x] w (OwnPost w φ 3 (upL l x)) := by
  have HX := Lib.hid hx
  obtain ⟨h1, h2⟩ := abv_tr hok.out hx
  have H1 := Lib.hid h1
  have H2 := Lib.hid h2
  have h8 := upL_len hok.out (.inr hx)
  clear h1 h2 hx
  go_enter Tryz.func85, Tryz.ntmps85
  go_wp2_with fail
  refine (above_any hφ s (Lib.hid hok.out.toPar) x HX.out).mono ?_
  rintro e w1 ⟨au, cu, φ1, rfl, hi1, su⟩
  rw [H1.out] at su ⊢
  dsimp only at su ⊢
  generalize hup : (upL l x).tail = up at *
  have hul : up.length ≤ 8 := by rw [← hup, List.length_tail]; omega
  replace hup := Lib.hid hup
  have I1 := Lib.hid hi1
  have hi2 := hi1.alloc (.cells #[.int .i64 x] 3)
  have ho2 := Own.lit (α := Int) hi1 3 (xs := [x]) (arr := #[.int .i64 x]) (RepL.single rfl) (by simp [maxLen])
  clear hi1
  go_wp2_with (at_builtin; refine wpList_apps (α := Int) rfl _ _ 56 rfl slI hi2 _ 1 [x] ho2 au cu up su rfl rfl (by simp; omega) ?_; intro a2 cap2 w2 hi3 hown3 hgr)
  go_ret
  have e : upL l x = [x] ++ up := H2.out
  rw [e]
  exact ⟨a2, cap2, _, rfl, hi3, hown3⟩
theorem lineage_any {w : World} {a : Option Addr} {c n : Nat} {l : List Nod} {φ : Phi} (hφ : Fz φ w) (s : SlV φ a c l) (hok : Hid (TrOk l n)) (x : Int) (hx : (ix l x).isSome = true) :
    Calls Tryz.prog 85 #[.slice a n c, .int .i64 x] w (SlPost1 (upL l x) φ w) := by
  refine (lineage_own hφ s hok x hx).mono ?_
  rintro e w' ⟨a2, cap2, φ1, rfl, hi, ho⟩
  obtain ⟨φ', _, hi', hs, _⟩ := ho.release hi
  exact ⟨a2, cap2, φ', rfl, hi', hs⟩

end Go.Proofs.YtngogjookldidaaGreatDoor

namespace Go.Proofs.YtngogjookldidaaGreatDoor
open Go.RowKit
set_option linter.unusedVariables false
set_option linter.unusedSimpArgs false

theorem ix_none {l : List Nod} {c : Int} : (ix l c).isSome = false ↔ ix l c = none := by cases ix l c <;> simp
theorem frc_at {l : List Nod} {cs : List Cdg} {q : Int} (h : treeF l = 0) (h2 : cdgF l cs = q) : frcF l cs = q := by rw [frcF, if_neg (by simp [h]), h2]
set_option maxRecDepth 100000 in
set_option maxHeartbeats 2000000 in
theorem RCheckCodings_any {w : World} {a : Option Addr} {c n : Nat} {l : List Nod} {φ : Phi} (hφ : Fz φ w) (s : SlV φ a c l) (hn : Hid (l.length = n)) (hm : n ≤ 9223372036854775807) {ac : Option Addr} {cc nc : Nat} {cs : List Cdg} (sc : SlV φ ac cc cs) (hnc : Hid (cs.length = nc)) (hmc : nc ≤ 9223372036854775807) :
    Calls Tryz.prog 30 #[.slice a n c, .slice ac nc cc] w (IntB (frcF l cs) w) := by
  go_enter Tryz.func30, Tryz.ntmps30
  go_wp2_with fail
  refine (CheckFrame_any n a c l w φ hφ s hn hm).mono ?_
  rintro e w1 ⟨rfl, hb⟩
  obtain ⟨q, hq⟩ : ∃ q, Hid (treeF l = q) := ⟨_, Lib.hid rfl⟩
  rw [hq.out]
  have HB := Lib.hid hb
  clear hb
  by_cases h0 : q = 0
  case neg =>
    have hg : ((q : Int) != 0) = true := by simp [h0]
    have H0 := Lib.hid h0
    clear h0
    go_wp2
    go_ret
    exact ⟨ret_int (by rw [frcF, hq.out, if_pos H0.out]), HB.out⟩
  subst h0
  have H0 := hq
  have HT : Hid (TrOk l n) := Lib.hid (by have := treeF_zero hq.out; rwa [hn.out] at this)
  have HFR : Hid (FrOk l n) := Lib.hid HT.out.toFrOk
  by_cases hl : 20000 < nc
  · go_wp2
    go_ret
    exact ⟨ret_int (by rw [frcF, H0.out, if_neg (by simp), cdgF, hnc.out, if_pos hl]), HB.out⟩
  go_wp2
  go_loopw [19] (fun i wr => ∃ k : Nat, k ≤ nc ∧ i = .int .i64 k ∧ Hid (∀ i, i < k → cdgBad l cs i = 0) ∧ Below w.heap.size w wr) (fun i _ => nc - (intOf i).toNat)
  case atStart => exact ⟨0, Nat.zero_le _, rfl, none_yet _, HB.out⟩
  case round =>
    obtain ⟨k, hk, rfl, hok, hbel⟩ := hrel
    by_cases hlt : k < nc
    · obtain ⟨b, off, rfl, f⟩ := sc.cdgD hnc hlt
      have hf := hφ.below hbel
      obtain ⟨hb, c1, c2, c3⟩ := f k hlt wr hf
      have hbad : Hid (cdgBad l cs k = _) := Lib.hid (cdgBad.eq_1 l cs k)
      have HP : Hid (0 < k → ∀ W, Fz φ W → W.cell? ⟨b, off + (k - 1) * 3, none⟩ = some (.int .i64 (cs.getD (k - 1) cdg0).1) ∧ W.cell? ⟨b, off + (k - 1) * 3 + 1, none⟩ = some (.int .i64 (cs.getD (k - 1) cdg0).2.1) ∧ W.cell? ⟨b, off + (k - 1) * 3 + 2, none⟩ = some (.int .i64 (cs.getD (k - 1) cdg0).2.2)) := Lib.hid (fun h W hW => (f (k - 1) (by omega) W hW).2)
      clear f
      generalize (cs.getD k cdg0).1 = x1 at *
      generalize (cs.getD k cdg0).2.1 = x2 at *
      generalize (cs.getD k cdg0).2.2 = x3 at *
      generalize (cs.getD (k - 1) cdg0).1 = y1 at *
      generalize (cs.getD (k - 1) cdg0).2.1 = y2 at *
      generalize (cs.getD (k - 1) cdg0).2.2 = y3 at *
      have HBX := Lib.hid (hbel.alloc hbel.size (.cells #[.int .i64 x1, .int .i64 x2, .int .i64 x3] 70))
      obtain ⟨o1, ho1⟩ : ∃ o, Hid (outB x2 1 50 = o) := ⟨_, Lib.hid rfl⟩
      obtain ⟨q, hq⟩ : ∃ o, Hid (ix l x3 = o) := ⟨_, Lib.hid rfl⟩
      by_cases hx1 : x1 < 1
      · go_wp2
        go_ret
        exact ⟨ret_int (frc_at H0.out (cdgF_at hnc (by omega) hlt hok (by rw [hbad.out]; rw [if_pos hx1]) (by decide))).symm, HBX.out⟩
      have HX1 := Lib.hid hx1
      cases o1
      case true =>
        go_wp2_with fail
        refine (within_b _ _ _ _ ho1.out).mono ?_
        rintro e w' ⟨rfl, rfl⟩
        go_wp2
        go_ret
        exact ⟨ret_int (frc_at H0.out (cdgF_at hnc (by omega) hlt hok (by rw [hbad.out]; rw [if_neg (by have := HX1.out; omega), if_pos ho1.out]) (by decide))).symm, HBX.out⟩
      cases q with
      | none =>
        go_wp2_with fail
        refine (within_b _ _ _ _ ho1.out).mono ?_
        rintro e w' ⟨rfl, rfl⟩
        go_wp2_with fail
        refine (find_any (hφ.below HBX.out) s HFR x3).mono ?_
        rintro e w2 ⟨rfl, hb1⟩
        have HB2 := Lib.hid (HBX.out.trans (hb1.mono HBX.out.size))
        have b0 : w2.cell? ⟨wr.heap.size, 0, none⟩ = some (.int .i64 x1) := (hb1.cell (p := ⟨wr.heap.size, 0, none⟩) (by simp)).trans (box_at 0)
        have b1 : w2.cell? ⟨wr.heap.size, 1, none⟩ = some (.int .i64 x2) := (hb1.cell (p := ⟨wr.heap.size, 1, none⟩) (by simp)).trans (box_at 1)
        have hlt2 : wr.heap.size < w2.heap.size := by have := hb1.size; simp at this; omega
        clear hb1
        rw [fdI_none hq.out]
        go_wp2
        go_ret
        exact ⟨ret_int (frc_at H0.out (cdgF_at hnc (by omega) hlt hok (by rw [hbad.out]; rw [if_neg (by have := HX1.out; omega), if_neg (by rw [ho1.out]; simp), if_pos (ix_none.2 hq.out)]) (by decide))).symm, HB2.out⟩
      | some iq =>
        have hi0 : decide ((iq : Int) < 0) = false := decide_eq_false (by omega)
        have hb3 : Hid (cdgBad l cs k = if k = 0 then 0 else if x1 < y1 then 7 else if x1 = y1 then if x2 < y2 then 7 else if x2 = y2 then 6 else 0 else 0) := Lib.hid (by rw [hbad.out, if_neg (by have := HX1.out; omega), if_neg (by rw [ho1.out]; simp), if_neg (by rw [hq.out]; simp)])
        by_cases h0 : k = 0
        · have h0i : ((k : Int) == 0) = true := by simp [h0]
          have HK := Lib.hid h0
          clear h0
          go_wp2_with fail
          refine (within_b _ _ _ _ ho1.out).mono ?_
          rintro e w' ⟨rfl, rfl⟩
          go_wp2_with fail
          refine (find_any (hφ.below HBX.out) s HFR x3).mono ?_
          rintro e w2 ⟨rfl, hb1⟩
          have HB2 := Lib.hid (HBX.out.trans (hb1.mono HBX.out.size))
          have b0 : w2.cell? ⟨wr.heap.size, 0, none⟩ = some (.int .i64 x1) := (hb1.cell (p := ⟨wr.heap.size, 0, none⟩) (by simp)).trans (box_at 0)
          have b1 : w2.cell? ⟨wr.heap.size, 1, none⟩ = some (.int .i64 x2) := (hb1.cell (p := ⟨wr.heap.size, 1, none⟩) (by simp)).trans (box_at 1)
          have hlt2 : wr.heap.size < w2.heap.size := by have := hb1.size; simp at this; omega
          clear hb1
          rw [fdI_some hq.out]
          go_wp2
          go_roundw
          case rel => exact ⟨k + 1, by omega, by go_num, next_ok hok (by rw [hb3.out, if_pos HK.out]), HB2.out⟩
          case measure => (simp [intOf] <;> omega)
        · have h0i : ((k : Int) == 0) = false := by simp [h0]
          have hix : 0 ≤ (k : Int) - 1 := by omega
          have hix2 : (k : Int) - 1 < nc := by omega
          have hto : ((k : Int) - 1).toNat = k - 1 := by omega
          have HK := Lib.hid h0
          go_wp2_with fail
          refine (within_b _ _ _ _ ho1.out).mono ?_
          rintro e w' ⟨rfl, rfl⟩
          go_wp2_with fail
          refine (find_any (hφ.below HBX.out) s HFR x3).mono ?_
          rintro e w2 ⟨rfl, hb1⟩
          have HB2 := Lib.hid (HBX.out.trans (hb1.mono HBX.out.size))
          have b0 : w2.cell? ⟨wr.heap.size, 0, none⟩ = some (.int .i64 x1) := (hb1.cell (p := ⟨wr.heap.size, 0, none⟩) (by simp)).trans (box_at 0)
          have b1 : w2.cell? ⟨wr.heap.size, 1, none⟩ = some (.int .i64 x2) := (hb1.cell (p := ⟨wr.heap.size, 1, none⟩) (by simp)).trans (box_at 1)
          have hlt2 : wr.heap.size < w2.heap.size := by have := hb1.size; simp at this; omega
          clear hb1
          rw [fdI_some hq.out]
          obtain ⟨p1, p2, p3⟩ := HP.out (by omega) w2 (hφ.below HB2.out)
          have hbel3 : ∀ o, Below w.heap.size w (w2.alloc o) := fun o => HB2.out.alloc HB2.out.size o
          go_wp2
          all_goals clear hto
          all_goals first
            | (go_ret; exact ⟨ret_int (frc_at H0.out (cdgF_at hnc (by omega) hlt hok (by rw [hb3.out, if_neg HK.out]; ((repeat' split) <;> (first | rfl | omega | (simp_all; done) | (exfalso; simp_all; omega) | (simp_all; omega)))) (by decide))).symm, hbel3 _⟩)
            | (go_roundw
               case rel => exact ⟨k + 1, by omega, by go_num, next_ok hok (by rw [hb3.out, if_neg HK.out]; ((repeat' split) <;> (first | rfl | omega | (simp_all; done) | (exfalso; simp_all; omega) | (simp_all; omega)))), hbel3 _⟩
               case measure => simp [intOf]; omega)
    · obtain rfl : k = nc := by omega
      go_wp2
      go_ret
      exact ⟨ret_int (frc_at H0.out (cdgF_ok hnc (by omega) hok)).symm, hbel⟩
end Go.Proofs.YtngogjookldidaaGreatDoor

namespace Go.Proofs.YtngogjookldidaaGreatDoor
open Go.RowKit
set_option linter.unusedVariables false
set_option linter.unusedSimpArgs false

theorem codedF_two {l : List Nod} {x y : Int} : codedF l [x, y] = if treeF l ≠ 0 then treeF l else if (ix l x).isSome = true ∧ (ix l y).isSome = true then 0 else 5 := by
  unfold codedF
  congr 1
  simp only [List.length_cons, List.length_nil, scan, miss5]
  cases h1 : (ix l x).isSome <;> cases h2 : (ix l y).isSome <;> simp [h1, h2]
theorem codedF_zero {l : List Nod} {x y : Int} (h : codedF l [x, y] = 0) : treeF l = 0 ∧ (ix l x).isSome = true ∧ (ix l y).isSome = true := by
  rw [codedF_two] at h
  split at h
  · next h1 => exact absurd h h1
  · next h1 =>
    split at h
    · next h2 => exact ⟨by simpa using h1, h2⟩
    · cases h
theorem dist_bound {l : List Nod} {n : Nat} (h : TrOk l n) {a b : Int} (ha : (ix l a).isSome = true) (hb : (ix l b).isSome = true) : 0 ≤ distOf l a b ∧ distOf l a b ≤ 16 := by
  obtain ⟨⟨ma, h1, h2⟩, _⟩ := code_lv h ha
  obtain ⟨⟨mb, h3, h4⟩, _⟩ := code_lv h hb
  have hle := meet_le h.len h1 h3
  have e1 := (upL_eq h.len h1).2
  have e2 := (upL_eq h.len h3).2
  unfold distOf; omega
theorem meetF_comm (l : List Nod) (a b : Int) : meetF l a b = meetF l b a := by
  have hc : codedF l [a, b] = codedF l [b, a] := by rw [codedF_two, codedF_two]; simp only [and_comm]
  unfold meetF
  rw [← hc]
  by_cases h : codedF l [a, b] = 0
  · rw [if_neg (by simp [h]), if_neg (by simp [h])]
    obtain ⟨h1, h2, h3⟩ := codedF_zero h
    have ht := treeF_zero h1
    obtain ⟨⟨ma, q1, _⟩, _⟩ := code_lv ht h2
    obtain ⟨⟨mb, q2, _⟩, _⟩ := code_lv ht h3
    rw [meet_comm ht.len q1 q2, dist_comm ht.len q1 q2]
  · rw [if_pos h, if_pos h]
theorem dist_law (l : List Nod) (a b c : Int) (h : (meetF l a b).2.2 = 0) :
    (meetF l b c).2.2 = (meetF l a c).2.2 ∧ ((meetF l b c).2.2 = 0 → ((meetF l a b).2.1 = 0 ↔ a = b) ∧ (meetF l a c).2.1 ≤ (meetF l a b).2.1 + (meetF l b c).2.1 ∧ 0 ≤ (meetF l a b).2.1 ∧ (meetF l a b).2.1 ≤ 16 ∧ 0 ≤ (meetF l b c).2.1 ∧ (meetF l b c).2.1 ≤ 16) := by
  have third : ∀ x y, (meetF l x y).2.2 = codedF l [x, y] := fun x y => by
    unfold meetF; by_cases h : codedF l [x, y] = 0
    · rw [if_neg (by simp [h]), h]
    · rw [if_pos h]
  have second : ∀ x y, codedF l [x, y] = 0 → (meetF l x y).2.1 = distOf l x y := fun x y h => by unfold meetF; rw [if_neg (by simp [h])]
  have hz : codedF l [a, b] = 0 := by rw [← third]; exact h
  obtain ⟨h1, ha, hb⟩ := codedF_zero hz
  have e : codedF l [b, c] = codedF l [a, c] := by rw [codedF_two, codedF_two, ha, hb]
  rw [third, third]
  refine ⟨e, fun h0 => ?_⟩
  obtain ⟨_, _, hc⟩ := codedF_zero h0
  rw [second _ _ hz, second _ _ h0, second _ _ (e ▸ h0)]
  have ht := treeF_zero h1
  obtain ⟨⟨ma, q1, _⟩, n1⟩ := code_lv ht ha
  obtain ⟨⟨mb, q2, _⟩, n2⟩ := code_lv ht hb
  obtain ⟨⟨mc, q3, _⟩, n3⟩ := code_lv ht hc
  have b1 := dist_bound ht ha hb
  have b2 := dist_bound ht hb hc
  exact ⟨dist_zero ht.len q1 q2 n1, dist_tri ht.len q1 q2 q3, b1.1, b1.2, b2.1, b2.2⟩

theorem rNode (H : Type) (enc : TypeId × Value → H) (W : World) : Reads enc Tryz.prog W 22 (List Nod) (fun xs => xs.length * Tryz.prog.bytesOf 51 ≤ reachBytes ∧ ∀ x ∈ xs, IsI64 x.1 ∧ IsI64 x.2.1 ∧ StrG x.2.2) :=
  Reads.slice Tryz.underlying22 (by kernel_rfl) (by decide) (Reads.struct3 (s1 := 1) (s2 := 1) (s3 := 1) Tryz.underlying51 (by kernel_rfl) (by kernel_rfl) (by kernel_rfl) (by kernel_rfl) (by kernel_rfl) (by kernel_rfl) (by kernel_rfl) (rInt H enc W) (rInt H enc W) (rStr H enc W))
theorem nodes_len {l : List Nod} (h : l.length * Tryz.prog.bytesOf 51 ≤ reachBytes) : l.length ≤ 9223372036854775807 := by
  have hb : Tryz.prog.bytesOf 51 = 32 := by kernel_rfl
  rw [hb] at h; unfold reachBytes at h; omega

end Go.Proofs.YtngogjookldidaaGreatDoor

namespace Go.Proofs.YtngogjookldidaaGreatDoor
open Go.RowKit
set_option linter.unusedVariables false
set_option linter.unusedSimpArgs false

/-- The code of at most a level. -/
def liftC (l : List Nod) (lev : Nat) (c : Int) : Int := (upL l c).getD (lvl l c - lev) 0
def liftX (l : List Nod) (lev : Nat) (x : Cdg) : Cdg := (x.1, x.2.1, liftC l lev x.2.2)
noncomputable def liftF (l : List Nod) (cs : List Cdg) (lev : Int) : List Cdg × Int :=
  if frcF l cs ≠ 0 then ([], frcF l cs) else if outB lev 1 8 = true then ([], 1) else (cs.map (liftX l lev.toNat), 0)
section
variable {l : List Nod} {n : Nat}
theorem liftC_stop (h : TrOk l n) {c : Int} (hc : (ix l c).isSome = true) {lev : Nat} (hl : lvl l c ≤ lev) : liftC l lev c = c := by
  unfold liftC
  rw [show lvl l c - lev = 0 by omega, (lvl_par h hc).2]; rfl
theorem liftC_step (h : TrOk l n) {c : Int} (hc : (ix l c).isSome = true) {lev : Nat} (hl : lev < lvl l c) : liftC l lev c = liftC l lev (parC l c) := by
  unfold liftC
  obtain ⟨e1, e2⟩ := lvl_par h hc
  rw [e2, show lvl l c - lev = (lvl l (parC l c) - lev) + 1 by omega]; rfl
end
theorem slC : SliceTy Tryz.prog 23 70 (.agg #[.int .i64 0, .int .i64 0, .int .i64 0]) (Rep.size Cdg) 24 := ⟨Tryz.underlying23, by kernel_rfl, rfl, by decide, by decide⟩
theorem cdg_ok {l : List Nod} {cs : List Cdg} {n : Nat} (hn : Hid (cs.length = n)) (h : frcF l cs = 0) : n ≤ 20000 ∧ treeF l = 0 ∧ ∀ k, k < n → (ix l (cs.getD k cdg0).2.2).isSome = true := by
  unfold frcF at h
  split at h
  · next h1 => exact absurd h h1
  next h1 =>
    unfold cdgF at h
    rw [hn.out] at h
    split at h
    · cases h
    next h2 =>
      refine ⟨by omega, by simpa using h1, fun k hk => ?_⟩
      have hb := scan_all _ h k hk
      unfold cdgBad at hb
      cases hx : (ix l (cs.getD k cdg0).2.2).isSome
      · exfalso
        rw [hx] at hb
        split at hb
        · cases hb
        · split at hb
          · cases hb
          · simp at hb
      · rfl
end Go.Proofs.YtngogjookldidaaGreatDoor

namespace Go.Proofs.YtngogjookldidaaGreatDoor
open Go.RowKit
set_option linter.unusedVariables false
set_option linter.unusedSimpArgs false

theorem Own.cdgD {B : Nat} {φ : Phi} {w : World} {E : TypeId} {a : Option Addr} {cap : Nat} {xs : List Cdg} (h : Own B φ w E a cap xs) {k n : Nat} (hn : Hid (xs.length = n)) (hk : k < n) :
    ∃ g, a = some ⟨g, 0, none⟩ ∧ B ≤ g ∧ g < w.heap.size ∧ w.cell? ⟨g, k * 3, none⟩ = some (.int .i64 (xs.getD k cdg0).1) ∧ w.cell? ⟨g, k * 3 + 1, none⟩ = some (.int .i64 (xs.getD k cdg0).2.1) ∧ w.cell? ⟨g, k * 3 + 2, none⟩ = some (.int .i64 (xs.getD k cdg0).2.2) ∧ (∀ j, w.frozen? ⟨g, j, none⟩ = false) ∧
      ∀ y w0 φ0, Inv B w0 φ0 φ w → Own B φ (w.setCell ⟨g, k * 3 + 2, none⟩ (.int .i64 y)) E a cap (xs.set k ((xs.getD k cdg0).1, (xs.getD k cdg0).2.1, y)) ∧ Inv B w0 φ0 φ (w.setCell ⟨g, k * 3 + 2, none⟩ (.int .i64 y)) := by
  have hk' : k < xs.length := by rw [hn.out]; exact hk
  obtain ⟨g, rfl, h1, h2, _, h4, hc⟩ := h.elem hk'
  obtain ⟨cs, ⟨c, d, rfl, e1, c2, d2, rfl, e2, e3⟩, hj⟩ := hc k hk'
  cases e1; cases e2; cases e3
  have j0 := hj 0 (by simp)
  have j1 := hj 1 (by simp)
  have j2 := hj 2 (by simp)
  simp [Rep.size] at j0 j1 j2
  rw [getD_elem0 _ _ _ hk']
  refine ⟨g, rfl, h1, h2, j0, j1, j2, h4, fun y w0 φ0 hi => ?_⟩
  exact h.setCell hi hk' (y := (xs[k].1, xs[k].2.1, y)) (j := 2) (u := .int .i64 y) hj rfl (by simp) ⟨[.int .i64 xs[k].1], [.int .i64 xs[k].2.1, .int .i64 y], rfl, rfl, [.int .i64 xs[k].2.1], [.int .i64 y], rfl, rfl, rfl⟩
def lfK (l : List Nod) (lev : Nat) (cs : List Cdg) (k : Nat) : List Cdg := (cs.take k).map (liftX l lev) ++ cs.drop k
theorem lfK_len (l : List Nod) (lev : Nat) (cs : List Cdg) (k : Nat) (hk : k ≤ cs.length) : (lfK l lev cs k).length = cs.length := by unfold lfK; simp; omega
theorem lfK_at (l : List Nod) (lev : Nat) (cs : List Cdg) (k : Nat) (hk : k < cs.length) : (lfK l lev cs k).getD k cdg0 = cs.getD k cdg0 := by
  have hl : ((cs.take k).map (liftX l lev)).length = k := by simp; omega
  unfold lfK
  rw [List.getD_eq_getElem?_getD, List.getElem?_append_right (by omega), hl, Nat.sub_self, List.getElem?_drop, Nat.add_zero, ← List.getD_eq_getElem?_getD]
theorem lfK_set (l : List Nod) (lev : Nat) (cs : List Cdg) (k : Nat) (hk : k < cs.length) : (lfK l lev cs k).set k (liftX l lev (cs.getD k cdg0)) = lfK l lev cs (k + 1) := by
  have hl : ((cs.take k).map (liftX l lev)).length = k := by simp; omega
  unfold lfK
  rw [List.set_append_right _ _ (by omega), hl, Nat.sub_self, take_snocD cdg0 cs k _ rfl hk, List.map_append, List.drop_eq_getElem_cons hk, getD_elem0 _ _ _ hk]
  simp only [List.set_cons_zero, List.map_cons, List.map_nil, List.append_assoc, List.singleton_append]
end Go.Proofs.YtngogjookldidaaGreatDoor

namespace Go.Proofs.YtngogjookldidaaGreatDoor
open Go.RowKit
set_option linter.unusedVariables false
set_option linter.unusedSimpArgs false

abbrev Mov := Int × Int
abbrev mov0 : Mov := (0, 0)
theorem SlV.movD {φ : Phi} {a : Option Addr} {cap : Nat} {xs : List Mov} (h : SlV φ a cap xs) {k n : Nat} (hn : Hid (xs.length = n)) (hk : k < n) :
    ∃ b off, a = some ⟨b, off, none⟩ ∧ ∀ k, k < n → ∀ w, Fz φ w → b < w.heap.size ∧ w.cell? ⟨b, off + k * 2, none⟩ = some (.int .i64 (xs.getD k mov0).1) ∧ w.cell? ⟨b, off + k * 2 + 1, none⟩ = some (.int .i64 (xs.getD k mov0).2) := by
  obtain ⟨b, off, ha, hc⟩ := h.cellsD mov0 hn hk
  refine ⟨b, off, ha, fun k hk w hw => ?_⟩
  obtain ⟨cs, ⟨c, d, rfl, h1, h2⟩, hj⟩ := hc k hk
  cases h1; cases h2
  have j0 := hj 0 (by simp)
  have j1 := hj 1 (by simp)
  simp [Rep.size] at j0 j1
  exact ⟨hw.lt j0, hw.cell j0, hw.cell j1⟩
def mvBad (l l2 : List Nod) (ms : List Mov) (k : Nat) : Int :=
  if (ix l (ms.getD k mov0).1).isSome = false then 5
  else if (ms.getD k mov0).2 ≠ 0 ∧ (ix l2 (ms.getD k mov0).2).isSome = false then 5
  else if 0 < k ∧ (ms.getD k mov0).1 ≤ (ms.getD (k - 1) mov0).1 then 7 else 0
def mvsF (l l2 : List Nod) (ms : List Mov) : Int := scan (mvBad l l2 ms) ms.length
def mvK (ms : List Mov) : Nat → Int → Option Int
  | 0 => fun _ => none
  | k + 1 => updF (mvK ms k) (ms.getD k mov0).1 (ms.getD k mov0).2
theorem mvsF_at {l l2 : List Nod} {ms : List Mov} {n k : Nat} (hn : Hid (ms.length = n)) (hk : k < n) (h : Hid (∀ i, i < k → mvBad l l2 ms i = 0)) {c : Int} (hc : mvBad l l2 ms k = c) (hc0 : c ≠ 0) : mvsF l l2 ms = c := by
  rw [mvsF, hn.out, scan_stop h.out hk (by rw [hc]; exact hc0), hc]
theorem mvsF_ok {l l2 : List Nod} {ms : List Mov} {n : Nat} (hn : Hid (ms.length = n)) (h : Hid (∀ i, i < n → mvBad l l2 ms i = 0)) : mvsF l l2 ms = 0 := by
  rw [mvsF, hn.out, scan_zero _ _ h.out]
def MovesPost (l l2 : List Nod) (ms : List Mov) (n : Nat) (w : World) (e : Ending) (w' : World) : Prop :=
  Below w.heap.size w w' ∧ ((mvsF l l2 ms ≠ 0 ∧ e = .returned (.tuple #[.map none, .int .i64 (mvsF l l2 ms)])) ∨ (mvsF l l2 ms = 0 ∧ ∃ r, e = .returned (.tuple #[.map (some r), .int .i64 0]) ∧ MapW w' r (mvK ms n)))
structure MvSt (w : World) (r : Nat) (f : Int → Option Int) (wr : World) : Prop where
  bel : Below w.heap.size w wr
  map : MapW wr r f
  lo : w.heap.size ≤ r
theorem MvSt.callB {w wr w' : World} {r : Nat} {f : Int → Option Int} (h : MvSt w r f wr) (hb : Below wr.heap.size wr w') : MvSt w r f w' := ⟨h.bel.trans (hb.mono h.bel.size), h.map.callB hb, h.lo⟩
theorem MvSt.alloc {w wr : World} {r : Nat} {f : Int → Option Int} (h : MvSt w r f wr) (o : Obj) : MvSt w r f (wr.alloc o) := h.callB ((Below.refl _ _).alloc (Nat.le_refl _) o)
theorem MvSt.drewN {w wr : World} {r : Nat} {f : Int → Option Int} (h : MvSt w r f wr) (q : Nat) : MvSt w r f (wr.drewN q) := h.callB (bdrewN (Below.refl _ _) q)
/-- A store: the object that comes of it, the run, the new state; behind any draws. -/
theorem MvSt.put {w wr : World} {r : Nat} {f : Int → Option Int} (h : MvSt w r f wr) (k x : Int) : ∃ o, (∀ q, (Instr.mapUpdate 53 (.map (some r)) (.int .i64 k) (.int .i64 x)).run Tryz.prog (wr.drewN q) = .ok () (setMap (wr.drewN q) r o)) ∧ ∀ q, MvSt w r (updF f k x) (setMap (wr.drewN q) r o) := by
  obtain ⟨o, h1, h2⟩ := h.map.put k x
  exact ⟨o, h1, fun q => ⟨Below_grown (bdrewN h.bel q) (setMap_grown _ r o) h.lo, h2 _ (setMap_same o h.map.lt), h.lo⟩⟩

end Go.Proofs.YtngogjookldidaaGreatDoor

namespace Go.Proofs.YtngogjookldidaaGreatDoor
open Go.RowKit
set_option linter.unusedVariables false
set_option linter.unusedSimpArgs false

/-- The title of a code. -/
def ttl (l : List Nod) (c : Int) : ByteArray := tit l (atV l c)
/-- The new code of a code; 0: there is none. -/
noncomputable def recC (l l2 : List Nod) (f : Int → Option Int) (c : Int) : Int :=
  match f c with
  | some t => t
  | none => if (ix l2 c).isSome = true then (if ttl l2 c = ttl l c then c else 0) else 0
noncomputable def recD (l l2 : List Nod) (f : Int → Option Int) (cs : List Cdg) : List Cdg := cs.filterMap fun x => if recC l l2 f x.2.2 = 0 then none else some (x.1, x.2.1, recC l l2 f x.2.2)
noncomputable def recL (l l2 : List Nod) (f : Int → Option Int) (cs : List Cdg) : List Cdg := cs.filter fun x => decide (recC l l2 f x.2.2 = 0)
noncomputable def recF (l l2 : List Nod) (ms : List Mov) (cs : List Cdg) : List Cdg × List Cdg × Int :=
  if treeF l ≠ 0 then ([], [], treeF l) else if treeF l2 ≠ 0 then ([], [], treeF l2) else if mvsF l l2 ms ≠ 0 then ([], [], mvsF l l2 ms) else if cdgF l cs ≠ 0 then ([], [], cdgF l cs)
  else (recD l l2 (mvK ms ms.length) cs, recL l l2 (mvK ms ms.length) cs, 0)
def SlPost2 {α β : Type} [Rep α] [Rep β] (r : List α × List β × Int) (φ : Phi) (w : World) (e : Ending) (w' : World) : Prop :=
  ∃ a1 c1 a2 c2 φ', e = .returned (.tuple #[.slice a1 r.1.length c1, .slice a2 r.2.1.length c2, .int .i64 r.2.2]) ∧ Inv w.heap.size w φ φ' w' ∧ SlV φ' a1 c1 r.1 ∧ SlV φ' a2 c2 r.2.1
theorem SlPost2.err {α β : Type} [Rep α] [Rep β] {r : List α × List β × Int} {φ : Phi} {w w' : World} {q : Int} (hr : r = ([], [], q)) (hφ : Fz φ w) (hb : Below w.heap.size w w') : SlPost2 r φ w (.returned (.tuple #[.slice none 0 0, .slice none 0 0, .int .i64 q])) w' :=
  ⟨none, 0, none, 0, φ, by rw [hr]; rfl, (Inv.start hφ).callB hb, by rw [hr]; exact SlV.empty _, by rw [hr]; exact SlV.empty _⟩
theorem rec_snoc (l l2 : List Nod) (f : Int → Option Int) (cs : List Cdg) (x : Cdg) : recD l l2 f (cs ++ [x]) = (if recC l l2 f x.2.2 = 0 then recD l l2 f cs else recD l l2 f cs ++ [(x.1, x.2.1, recC l l2 f x.2.2)]) ∧ recL l l2 f (cs ++ [x]) = (if recC l l2 f x.2.2 = 0 then recL l l2 f cs ++ [x] else recL l l2 f cs) := by
  unfold recD recL
  rw [List.filterMap_append, List.filter_append]
  by_cases h : recC l l2 f x.2.2 = 0 <;> simp [h]
theorem rec_len (l l2 : List Nod) (f : Int → Option Int) (cs : List Cdg) : (recD l l2 f cs).length ≤ cs.length ∧ (recL l l2 f cs).length ≤ cs.length := by
  unfold recD recL; exact ⟨List.length_filterMap_le _ _, List.length_filter_le _ _⟩
end Go.Proofs.YtngogjookldidaaGreatDoor

namespace Go.Proofs.YtngogjookldidaaGreatDoor
open Go.RowKit
set_option linter.unusedVariables false
set_option linter.unusedSimpArgs false

theorem neqC (w : World) (x1 x2 x3 y1 y2 y3 : Int) : (binOp .neq 70 (.agg #[.int .i64 x1, .int .i64 x2, .int .i64 x3]) (.agg #[.int .i64 y1, .int .i64 y2, .int .i64 y3])).run Tryz.prog w = .ok (.bool (!decide (x1 = y1 ∧ x2 = y2 ∧ x3 = y3))) w := by
  have hu := Tryz.underlying70
  rw [run_neq_struct, run_equalIn_agg w 9999 _ _ _ (by simp only [Program.fieldsOf, hu]) (by kernel_rfl)]
  simp only [Program.fieldsOf, hu]
  have hi := Tryz.underlying3
  by_cases h1 : x1 = y1 <;> by_cases h2 : x2 = y2 <;> by_cases h3 : x3 = y3 <;> simp [Op.eqFields, part, Program.cellsOf, h1, h2, h3, run_equalIn_int w _ 3 _ _ _ _ hi, Result.andThen]
end Go.Proofs.YtngogjookldidaaGreatDoor

namespace Go.Proofs.YtngogjookldidaaGreatDoor
open Go.RowKit
set_option linter.unusedVariables false
set_option linter.unusedSimpArgs false

section
variable {l : List Nod} {n : Nat}
theorem upL_length (h : TrOk l n) {c : Int} (hc : (ix l c).isSome = true) : (upL l c).length = lvl l c ∧ 0 < lvl l c := by
  obtain ⟨⟨m, hm, _⟩, h0⟩ := code_lv h hc
  obtain ⟨e1, e2⟩ := upL_eq h.len hm
  obtain ⟨j, rfl⟩ := lvA_pos hm h0
  exact ⟨by rw [e1, upA_length, e2], by omega⟩
theorem liftC_vld (h : TrOk l n) {c : Int} (hc : (ix l c).isSome = true) {lev : Nat} (hl : 1 ≤ lev) : (ix l (liftC l lev c)).isSome = true := by
  obtain ⟨e1, e2⟩ := upL_length h hc
  unfold liftC
  rw [getD_elem0 _ _ _ (by omega)]
  exact upL_vld h (.inr hc) (List.getElem_mem _)
theorem par_vld (h : TrOk l n) {c : Int} (hc : (ix l c).isSome = true) (h2 : 1 < lvl l c) : (ix l (parC l c)).isSome = true := by
  obtain ⟨i, _, _, _, _, h5⟩ := h.up hc
  rcases h5 with h5 | h5
  · exfalso
    have := (lvl_par h hc).1
    rw [h5, lvl_zero] at this; omega
  · exact h5
theorem liftC_lift (h : TrOk l n) {a b : Nat} (ha : 1 ≤ a) (hab : a ≤ b) : ∀ (d : Nat) {c : Int}, (ix l c).isSome = true → lvl l c ≤ d → liftC l a (liftC l b c) = liftC l a c
  | 0, c, hc, hd => by have := (upL_length h hc).2; omega
  | d + 1, c, hc, hd => by
    by_cases hl : lvl l c ≤ b
    · rw [liftC_stop h hc hl]
    · rw [liftC_step h hc (by omega), liftC_step h hc (lev := a) (by omega)]
      exact liftC_lift h ha hab d (par_vld h hc (by omega)) (by have := (lvl_par h hc).1; omega)
end
theorem frc_iff {l : List Nod} {cs : List Cdg} : frcF l cs = 0 ↔ treeF l = 0 ∧ cs.length ≤ 20000 ∧ ∀ k, k < cs.length → cdgBad l cs k = 0 := by
  unfold frcF cdgF
  constructor
  · intro h
    split at h
    · next h1 => exact absurd h h1
    next h1 =>
      split at h
      · cases h
      next h2 => exact ⟨by simpa using h1, by omega, fun k hk => scan_all _ h k hk⟩
  · rintro ⟨h1, h2, h3⟩
    rw [if_neg (by simp [h1]), if_neg (by omega), scan_zero _ _ h3]
theorem cdg_vld {l : List Nod} {cs : List Cdg} (h : frcF l cs = 0) : ∀ x ∈ cs, (ix l x.2.2).isSome = true := by
  intro x hx
  obtain ⟨i, hi, rfl⟩ := List.getElem_of_mem hx
  have := (cdg_ok (Lib.hid rfl) h).2.2 i hi
  rwa [getD_elem0 _ _ _ hi] at this
theorem bad_map {l : List Nod} {cs : List Cdg} {g : Cdg → Cdg} (hg : ∀ x, (g x).1 = x.1 ∧ (g x).2.1 = x.2.1) (hv : ∀ x ∈ cs, (ix l x.2.2).isSome = true ∧ (ix l (g x).2.2).isSome = true) {k : Nat} (hk : k < cs.length) : cdgBad l (cs.map g) k = cdgBad l cs k := by
  have e : ∀ j, j < cs.length → (cs.map g).getD j cdg0 = g (cs.getD j cdg0) := fun j hj => by
    rw [getD_elem0 _ _ _ (by simpa using hj), getD_elem0 _ _ _ hj, List.getElem_map]
  have v : (ix l (cs.getD k cdg0).2.2).isSome = true ∧ (ix l (g (cs.getD k cdg0)).2.2).isSome = true := by
    rw [getD_elem0 _ _ _ hk]; exact hv _ (List.getElem_mem _)
  unfold cdgBad
  rw [e k hk, e (k - 1) (by omega), (hg _).1, (hg _).2, (hg _).1, (hg _).2, v.1, v.2]
theorem lift_frc {l : List Nod} {cs : List Cdg} (h : frcF l cs = 0) {lev : Nat} (hl : 1 ≤ lev) : frcF l (cs.map (liftX l lev)) = 0 := by
  obtain ⟨h1, h2, h3⟩ := frc_iff.1 h
  have ht := treeF_zero h1
  refine frc_iff.2 ⟨h1, by simpa using h2, fun k hk => ?_⟩
  rw [bad_map (g := liftX l lev) (fun x => ⟨rfl, rfl⟩) (fun x hx => ⟨cdg_vld h x hx, liftC_vld ht (cdg_vld h x hx) hl⟩) (by simpa using hk)]
  exact h3 k (by simpa using hk)
theorem rec_same {l : List Nod} {cs : List Cdg} (h : frcF l cs = 0) : recF l l [] cs = (cs, [], 0) := by
  obtain ⟨h1, h2, h3⟩ := frc_iff.1 h
  have ht := treeF_zero h1
  have hc : cdgF l cs = 0 := by unfold frcF at h; rwa [if_neg (by simp [h1])] at h
  have e : ∀ x ∈ cs, recC l l (mvK [] 0) x.2.2 = x.2.2 := fun x hx => by unfold recC mvK; simp [cdg_vld h x hx]
  have z : ∀ x ∈ cs, x.2.2 ≠ 0 := fun x hx => (code_lv ht (cdg_vld h x hx)).2
  rw [recF, if_neg (by simp [h1]), if_neg (by simp [h1]), if_neg (by simp [mvsF, scan]), if_neg (by simp [hc])]
  have e1 : recD l l (mvK [] 0) cs = cs := by
    unfold recD
    clear h h1 h2 h3 hc ht
    induction cs with
    | nil => rfl
    | cons x cs ih =>
      have q := e x (by simp)
      rw [List.filterMap_cons, q, if_neg (z x (by simp))]
      dsimp only
      rw [ih (fun y hy => e y (by simp [hy])) (fun y hy => z y (by simp [hy]))]
  have e2 : recL l l (mvK [] 0) cs = [] := by
    unfold recL
    rw [List.filter_eq_nil_iff]
    intro x hx
    rw [e x hx]
    simp [z x hx]
  rw [List.length_nil, e1, e2]
theorem lift_law (l : List Nod) (cs : List Cdg) (lev hi : Int) : ((liftF l cs lev).2 ≠ 0 → (liftF l cs lev).1 = []) ∧ ((liftF l cs lev).2 = 0 → ((liftF l cs hi).2 = 0 → hi ≤ lev → liftF l (liftF l cs lev).1 hi = liftF l cs hi) ∧ recF l l [] cs = (cs, [], 0)) := by
  by_cases h : frcF l cs = 0
  · by_cases h1 : outB lev 1 8 = true
    · have e : liftF l cs lev = ([], 1) := by rw [liftF, h, if_neg (by simp), if_pos h1]
      rw [e]; simp
    · have e : liftF l cs lev = (cs.map (liftX l lev.toNat), 0) := by rw [liftF, h, if_neg (by simp), if_neg h1]
      rw [e]
      refine ⟨by simp, fun _ => ⟨fun h2 hle => ?_, rec_same h⟩⟩
      by_cases h3 : outB hi 1 8 = true
      · have e : liftF l cs hi = ([], 1) := by rw [liftF, h, if_neg (by simp), if_pos h3]
        rw [e] at h2; cases h2
      · have e2 : liftF l cs hi = (cs.map (liftX l hi.toNat), 0) := by rw [liftF, h, if_neg (by simp), if_neg h3]
        have b1 := outB_false.1 (Bool.not_eq_true _ ▸ h1)
        have b2 := outB_false.1 (Bool.not_eq_true _ ▸ h3)
        have ht := treeF_zero (frc_iff.1 h).1
        rw [e2]
        dsimp only
        rw [liftF, lift_frc h (by omega), if_neg (by simp), if_neg h3, List.map_map]
        congr 1
        apply List.map_congr_left
        intro x hx
        have := liftC_lift ht (a := hi.toNat) (b := lev.toNat) (by omega) (by omega) (lvl l x.2.2) (cdg_vld h x hx) (Nat.le_refl _)
        show (x.1, x.2.1, liftC l hi.toNat (liftC l lev.toNat x.2.2)) = (x.1, x.2.1, liftC l hi.toNat x.2.2)
        rw [this]
  · have e : liftF l cs lev = ([], frcF l cs) := by rw [liftF, if_pos h]
    rw [e]; simp [h]

theorem lift_len (l : List Nod) (cs : List Cdg) (lev : Int) : (liftF l cs lev).1.length ≤ cs.length := by
  unfold liftF; split
  · simp
  · split <;> simp

theorem rCdg (H : Type) (enc : TypeId × Value → H) (W : World) : Reads enc Tryz.prog W 23 (List Cdg) (fun xs => xs.length * Tryz.prog.bytesOf 70 ≤ reachBytes ∧ ∀ x ∈ xs, IsI64 x.1 ∧ IsI64 x.2.1 ∧ IsI64 x.2.2) :=
  Reads.slice Tryz.underlying23 (by kernel_rfl) (by decide) (Reads.struct3 (s1 := 1) (s2 := 1) (s3 := 1) Tryz.underlying70 (by kernel_rfl) (by kernel_rfl) (by kernel_rfl) (by kernel_rfl) (by kernel_rfl) (by kernel_rfl) (by kernel_rfl) (rInt H enc W) (rInt H enc W) (rInt H enc W))
theorem cdgs_len {l : List Cdg} (h : l.length * Tryz.prog.bytesOf 70 ≤ reachBytes) : l.length ≤ 9223372036854775807 := by
  have hb : Tryz.prog.bytesOf 70 = 24 := by kernel_rfl
  rw [hb] at h; unfold reachBytes at h; omega
end Go.Proofs.YtngogjookldidaaGreatDoor

namespace Go.Proofs.YtngogjookldidaaGreatDoor
open Go.RowKit
set_option linter.unusedVariables false
set_option linter.unusedSimpArgs false

theorem SlPost2.err' {α β : Type} [Rep α] [Rep β] {r : List α × List β × Int} {φ : Phi} {w w' : World} {q : Int} (hr : r = ([], [], q)) (hφ : Fz φ w) (hb : Below w.heap.size w w') : SlPost2 r φ w (.returned (.tuple #[.slice none 0 0, .slice none 0 0, .int .i64 q])) w' := SlPost2.err hr hφ hb
/-- find, with what a region holds. -/
theorem find_S {wx : World} {a : Option Addr} {c n : Nat} {l : List Nod} {φ : Phi} (hφ : Fz φ wx) (s : SlV φ a c l) (hok : Hid (FrOk l n)) (x : Int) {i : Nat} (hi : fdI l x = (i : Int)) {p1 p2 p3 : Addr} {v1 v2 v3 : Value} (h1 : wx.cell? p1 = some v1) (h2 : wx.cell? p2 = some v2) (h3 : wx.cell? p3 = some v3) (W : World) (hW : Hid (Below wx.heap.size wx W)) :
    Calls Tryz.prog 56 #[.slice a n c, .int .i64 x] W fun e w' => e = .returned (.int .i64 (i : Int)) ∧ w'.cell? p1 = some v1 ∧ w'.cell? p2 = some v2 ∧ w'.cell? p3 = some v3 ∧ Hid (Below wx.heap.size wx w') :=
  (find_any (hφ.below hW.out) s hok x).mono fun e w' ⟨he, hb⟩ => by
    have hb' := hW.out.trans (hb.mono hW.out.size)
    exact ⟨by rw [he, hi], (hb'.cell (World.block_lt_of_cell? wx p1 h1)).trans h1, (hb'.cell (World.block_lt_of_cell? wx p2 h2)).trans h2, (hb'.cell (World.block_lt_of_cell? wx p3 h3)).trans h3, Lib.hid hb'⟩
end Go.Proofs.YtngogjookldidaaGreatDoor

namespace Go.Proofs.YtngogjookldidaaGreatDoor
set_option linter.unusedVariables false
set_option linter.unusedSimpArgs false

/-- How many codings have a code; how many have it above their own, or as their own. -/
def cntO (g : List Cdg) (c : Int) : Nat := (g.filter (fun x => decide (x.2.2 = c))).length
def cntA (l : List Nod) (g : List Cdg) (c : Int) : Nat := (g.filter (fun x => decide (c ∈ upL l x.2.2))).length
def majO (g : List Cdg) (c : Int) : Prop := g.length < 2 * cntO g c
def majA (l : List Nod) (g : List Cdg) (c : Int) : Prop := g.length < 2 * cntA l g c
/-- What becomes of codings: (case, code, way). -/
def FinR (l : List Nod) (g : List Cdg) (r : Cdg) : Prop :=
  r.1 = (g.getD 0 cdg0).1 ∧
  ((majO g r.2.1 ∧ r.2.2 = if cntO g r.2.1 = g.length then 1 else 2) ∨
   ((∀ c, ¬ majO g c) ∧ majA l g r.2.1 ∧ (∀ c, majA l g c → lvl l c ≤ lvl l r.2.1) ∧ r.2.2 = 3) ∨
   ((∀ c, ¬ majO g c) ∧ (∀ c, ¬ majA l g c) ∧ r.2.1 = 0 ∧ r.2.2 = 4))
theorem two_maj {α : Type} (p q : α → Bool) : ∀ (g : List α), g.length < (g.filter p).length + (g.filter q).length → ∃ x ∈ g, p x = true ∧ q x = true
  | [], h => by simp at h
  | x :: g, h => by
    by_cases hx : p x = true ∧ q x = true
    · exact ⟨x, by simp, hx⟩
    · obtain ⟨y, hy, hpq⟩ := two_maj p q g (by
        rw [List.filter_cons, List.filter_cons] at h
        cases hp : p x <;> cases hq : q x <;> simp [hp, hq] at h hx <;> omega)
      exact ⟨y, by simp [hy], hpq⟩
theorem cntO_le (g : List Cdg) (c : Int) : cntO g c ≤ g.length := List.length_filter_le _ _
theorem cntA_le (l : List Nod) (g : List Cdg) (c : Int) : cntA l g c ≤ g.length := List.length_filter_le _ _
theorem cntO_snoc (g : List Cdg) (x : Cdg) (c : Int) : cntO (g ++ [x]) c = cntO g c + if x.2.2 = c then 1 else 0 := by
  unfold cntO; rw [List.filter_append]; by_cases h : x.2.2 = c <;> simp [h]
theorem cntA_snoc (l : List Nod) (g : List Cdg) (x : Cdg) (c : Int) : cntA l (g ++ [x]) c = cntA l g c + if c ∈ upL l x.2.2 then 1 else 0 := by
  unfold cntA; rw [List.filter_append]; by_cases h : c ∈ upL l x.2.2 <;> simp [h]
theorem cnt_mem {g : List Cdg} {c : Int} (h : 0 < cntO g c) : ∃ x ∈ g, x.2.2 = c := by
  unfold cntO at h
  obtain ⟨x, hx⟩ := List.exists_mem_of_length_pos h
  rw [List.mem_filter] at hx
  exact ⟨x, hx.1, by simpa using hx.2⟩
theorem cntA_mem {l : List Nod} {g : List Cdg} {c : Int} (h : 0 < cntA l g c) : ∃ x ∈ g, c ∈ upL l x.2.2 := by
  unfold cntA at h
  obtain ⟨x, hx⟩ := List.exists_mem_of_length_pos h
  rw [List.mem_filter] at hx
  exact ⟨x, hx.1, by simpa using hx.2⟩
theorem majO_uniq {g : List Cdg} {c c' : Int} (h : majO g c) (h' : majO g c') : c = c' := by
  unfold majO cntO at h h'
  obtain ⟨x, _, h1, h2⟩ := two_maj (fun x : Cdg => decide (x.2.2 = c)) (fun x : Cdg => decide (x.2.2 = c')) g (by omega)
  simp at h1 h2
  exact h1.symm.trans h2
theorem majA_both {l : List Nod} {g : List Cdg} {c c' : Int} (h : majA l g c) (h' : majA l g c') : ∃ x ∈ g, c ∈ upL l x.2.2 ∧ c' ∈ upL l x.2.2 := by
  unfold majA cntA at h h'
  obtain ⟨x, hx, h1, h2⟩ := two_maj (fun x : Cdg => decide (c ∈ upL l x.2.2)) (fun x : Cdg => decide (c' ∈ upL l x.2.2)) g (by omega)
  simp at h1 h2
  exact ⟨x, hx, h1, h2⟩
section
variable {l : List Nod} {n : Nat} {g : List Cdg}
theorem majA_up (ht : TrOk l n) (hv : ∀ x ∈ g, (ix l x.2.2).isSome = true) {c c' : Int} (h : majA l g c) (h' : majA l g c') (hl : lvl l c' ≤ lvl l c) : c' ∈ upL l c := by
  obtain ⟨x, hx, h1, h2⟩ := majA_both h h'
  obtain ⟨⟨m, hm, _⟩, _⟩ := code_lv ht (hv x hx)
  exact (up_facts ht.len hm h1).2.2.2.2.2 _ h2 hl
theorem majA_vld (ht : TrOk l n) (hv : ∀ x ∈ g, (ix l x.2.2).isSome = true) {c : Int} (h : 0 < cntA l g c) : (ix l c).isSome = true := by
  obtain ⟨x, hx, h1⟩ := cntA_mem h
  exact upL_vld ht (.inr (hv x hx)) h1
theorem majA_uniq (ht : TrOk l n) (hv : ∀ x ∈ g, (ix l x.2.2).isSome = true) {c c' : Int} (h : majA l g c) (h' : majA l g c') (hl : lvl l c' = lvl l c) : c' = c := by
  have h1 := majA_up ht hv h h' (Nat.le_of_eq hl)
  have hc := majA_vld ht hv (c := c) (by unfold majA at h; omega)
  obtain ⟨⟨m, hm, _⟩, _⟩ := code_lv ht hc
  exact (up_facts ht.len hm h1).2.2.2.1 hl
theorem FinR_uniq (ht : TrOk l n) (hv : ∀ x ∈ g, (ix l x.2.2).isSome = true) {r r' : Cdg} (h : FinR l g r) (h' : FinR l g r') : r = r' := by
  obtain ⟨a, b, c⟩ := r
  obtain ⟨a', b', c'⟩ := r'
  obtain ⟨h1, h2⟩ := h
  obtain ⟨h1', h2'⟩ := h'
  dsimp only at *
  have ha : a = a' := h1.trans h1'.symm
  subst ha
  rcases h2 with ⟨p1, p2⟩ | ⟨p1, p2, p3, p4⟩ | ⟨p1, p2, p3, p4⟩ <;> rcases h2' with ⟨q1, q2⟩ | ⟨q1, q2, q3, q4⟩ | ⟨q1, q2, q3, q4⟩
  · have := majO_uniq p1 q1
    subst this
    rw [p2, q2]
  · exact absurd p1 (q1 _)
  · exact absurd p1 (q1 _)
  · exact absurd q1 (p1 _)
  · have := majA_uniq ht hv q2 p2 (Nat.le_antisymm (q3 _ p2) (p3 _ q2))
    rw [this, p4, q4]
  · exact absurd p2 (q2 _)
  · exact absurd q1 (p1 _)
  · exact absurd q2 (p2 _)
  · rw [p3, p4, q3, q4]
/-- .. as a function. -/
noncomputable def finF (l : List Nod) (g : List Cdg) : Cdg := @dite _ (∃ r, FinR l g r) (Classical.propDecidable _) (fun h => Classical.choose h) (fun _ => cdg0)
theorem finF_eq (ht : TrOk l n) (hv : ∀ x ∈ g, (ix l x.2.2).isSome = true) {r : Cdg} (h : FinR l g r) : finF l g = r := by
  have he : ∃ r, FinR l g r := ⟨r, h⟩
  unfold finF
  rw [dif_pos he]
  exact FinR_uniq ht hv (Classical.choose_spec he) h
/-- How many codes lie at a code or below it. -/
def covN (l : List Nod) (c : Int) : Nat := (l.filter (fun x => decide (c ∈ upL l x.1))).length
theorem filter_lt_of {α : Type} (p q : α → Bool) : ∀ (g : List α), (∀ x ∈ g, p x = true → q x = true) → (∃ x ∈ g, p x = false ∧ q x = true) → (g.filter p).length < (g.filter q).length
  | [], _, h => by obtain ⟨x, hx, _⟩ := h; simp at hx
  | x :: g, hs, ⟨y, hy, h1, h2⟩ => by
    have hle : ∀ (g : List α), (∀ x ∈ g, p x = true → q x = true) → (g.filter p).length ≤ (g.filter q).length := by
      intro g
      induction g with
      | nil => simp
      | cons x g ih =>
        intro h
        have ih := ih (fun y hy => h y (by simp [hy]))
        rw [List.filter_cons, List.filter_cons]
        cases hp : p x
        · cases hq : q x <;> simp <;> omega
        · rw [h x (by simp) hp]; simp; exact ih
    rw [List.filter_cons, List.filter_cons]
    rcases List.mem_cons.1 hy with rfl | hy
    · rw [h1, h2]
      have := hle g (fun z hz => hs z (by simp [hz]))
      simp; omega
    · have ih := filter_lt_of p q g (fun z hz => hs z (by simp [hz])) ⟨y, hy, h1, h2⟩
      cases hp : p x
      · cases hq : q x <;> simp <;> omega
      · rw [hs x (by simp) hp]; simp; exact ih
theorem cov_lt (ht : TrOk l n) {c c' : Int} (hc : (ix l c).isSome = true) (hc' : (ix l c').isSome = true) (h : c ∈ upL l c') (hl : lvl l c < lvl l c') : covN l c' < covN l c := by
  unfold covN
  refine filter_lt_of _ _ _ (fun x hx hp => ?_) ?_
  · simp at hp ⊢
    obtain ⟨i, hi, rfl⟩ := List.getElem_of_mem hx
    have hv : (ix l l[i].1).isSome = true := by
      have := ht.ix_of (i := i) (by rw [← ht.len]; exact hi)
      rw [show cod l i = l[i].1 by unfold cod; rw [getD_elem0 _ _ _ hi]] at this
      rw [this]; rfl
    obtain ⟨⟨m, hm, _⟩, _⟩ := code_lv ht hv
    exact (up_facts ht.len hm hp).2.2.2.2.1 _ h
  · obtain ⟨i, hi, he, _⟩ := ht.up hc
    have hi' : i < l.length := by rw [ht.len]; exact hi
    have hce : l[i].1 = c := by rw [← he]; unfold cod; rw [getD_elem0 _ _ _ hi']
    refine ⟨l[i], List.getElem_mem hi', ?_, ?_⟩
    · rw [hce]
      simp
      intro hin
      obtain ⟨⟨m, hm, _⟩, _⟩ := code_lv ht hc
      have := (up_facts ht.len hm hin).2.2.1
      omega
    · rw [hce]
      simp
      obtain ⟨⟨m, hm, _⟩, h0⟩ := code_lv ht hc
      exact self_mem ht.len hm h0
end
/-- Codings by cases. -/
def grpK (cs : List Cdg) : Nat → List (List Cdg)
  | 0 => []
  | k + 1 => if k = 0 ∨ (cs.getD k cdg0).1 ≠ (cs.getD (k - 1) cdg0).1 then grpK cs k ++ [[cs.getD k cdg0]] else (grpK cs k).dropLast ++ [(grpK cs k).getLastD [] ++ [cs.getD k cdg0]]
theorem grpK_ok (cs : List Cdg) : ∀ k, k ≤ cs.length → (∀ g ∈ grpK cs k, g ≠ [] ∧ g.length ≤ k ∧ ∀ x ∈ g, x ∈ cs) ∧ (grpK cs k).length ≤ k ∧ (0 < k → grpK cs k ≠ [])
  | 0, _ => by simp [grpK]
  | k + 1, hk => by
    obtain ⟨h1, h2, h3⟩ := grpK_ok cs k (by omega)
    have hx : cs.getD k cdg0 ∈ cs := by rw [getD_elem0 _ _ _ (by omega)]; exact List.getElem_mem _
    unfold grpK
    split
    · refine ⟨fun g hg => ?_, by simp; omega, by simp⟩
      rcases List.mem_append.1 hg with hg | hg
      · obtain ⟨a, b, c⟩ := h1 g hg
        exact ⟨a, by omega, c⟩
      · simp at hg; subst hg; exact ⟨by simp, by simp, by simpa using hx⟩
    · next hn =>
      have hk0 : 0 < k := by
        rcases Nat.eq_zero_or_pos k with h | h
        · exact absurd (.inl h) hn
        · exact h
      have hne := h3 hk0
      refine ⟨fun g hg => ?_, by rw [List.length_append, List.length_dropLast, List.length_singleton]; omega, by simp⟩
      rcases List.mem_append.1 hg with hg | hg
      · obtain ⟨a, b, c⟩ := h1 g (List.dropLast_subset _ hg)
        exact ⟨a, by omega, c⟩
      · simp only [List.mem_singleton] at hg
        subst hg
        have hl : (grpK cs k).getLastD [] ∈ grpK cs k := by rw [List.getLastD_eq_getLast?, List.getLast?_eq_some_getLast hne]; exact List.getLast_mem hne
        obtain ⟨a, b, c⟩ := h1 _ hl
        refine ⟨by simp, by rw [List.length_append, List.length_singleton]; omega, fun x hxx => ?_⟩
        rcases List.mem_append.1 hxx with hxx | hxx
        · exact c x hxx
        · simp at hxx; subst hxx; exact hx
noncomputable def fnlF (l : List Nod) (cs : List Cdg) : List Cdg × Int := if frcF l cs ≠ 0 then ([], frcF l cs) else ((grpK cs cs.length).map (finF l), 0)
end Go.Proofs.YtngogjookldidaaGreatDoor

namespace Go.Proofs.YtngogjookldidaaGreatDoor
open Go.RowKit
set_option linter.unusedVariables false
set_option linter.unusedSimpArgs false

theorem slCC : SliceTy Tryz.prog 67 23 (.slice none 0 0) (Rep.size Hdr) 24 := ⟨Tryz.underlying67, by kernel_rfl, rfl, by decide, by decide⟩
/-- The state of cases: the groups so far, the last one the call's own. -/
def CsSt (w0 : World) (φ0 : Phi) (gs : List (List Cdg)) (ao : Option Addr) (co : Nat) (wr : World) : Prop :=
  ∃ (φ : Phi) (hi : List Hdr) (ini : List (List Cdg)) (hs : List Hdr) (al : Option Addr) (cl : Nat) (la : List Cdg), φ0.le φ ∧ (∀ b, b < w0.heap.size → φ b = φ0 b) ∧ Ow2 w0 φ 23 70 ao co hs al cl la wr ∧ HdrL φ hi ini ∧
    ((gs = [] ∧ hs = [] ∧ hi = [] ∧ ini = [] ∧ la = []) ∨ (gs = ini ++ [la] ∧ hs = hi ++ [⟨al, la.length, cl⟩]))
theorem CsSt.start {w0 : World} {φ0 : Phi} (h : Fz φ0 w0) : CsSt w0 φ0 [] none 0 w0 :=
  ⟨φ0, [], [], [], none, 0, [], φ0.le_refl, fun _ _ => rfl, ⟨Inv.start h, Own.nil _ _ _ _, Own.nil _ _ _ _, fun _ _ h => by cases h⟩, trivial, .inl ⟨rfl, rfl, rfl, rfl, rfl⟩⟩
theorem CsSt.callB {w0 wr w' : World} {φ0 : Phi} {gs : List (List Cdg)} {ao : Option Addr} {co : Nat} (h : CsSt w0 φ0 gs ao co wr) (hb : Below wr.heap.size wr w') : CsSt w0 φ0 gs ao co w' := by
  obtain ⟨φ, hi, ini, hs, al, cl, la, h1, h2, h3, h4⟩ := h
  exact ⟨φ, hi, ini, hs, al, cl, la, h1, h2, h3.callB hb, h4⟩
theorem CsSt.fz {w0 wr : World} {φ0 : Phi} {gs : List (List Cdg)} {ao : Option Addr} {co : Nat} (h : CsSt w0 φ0 gs ao co wr) : Fz φ0 wr := by
  obtain ⟨φ, hi, ini, hs, al, cl, la, h1, h2, h3, h4⟩ := h; exact h3.inv.fz.sub h1
theorem CsSt.bel {w0 wr : World} {φ0 : Phi} {gs : List (List Cdg)} {ao : Option Addr} {co : Nat} (h : CsSt w0 φ0 gs ao co wr) : Below w0.heap.size w0 wr := by
  obtain ⟨φ, hi, ini, hs, al, cl, la, h1, h2, h3, h4⟩ := h; exact h3.inv.bel
/-- All groups complete. -/
theorem CsSt.fin {w0 wr : World} {φ0 : Phi} {gs : List (List Cdg)} {ao : Option Addr} {co : Nat} (h : CsSt w0 φ0 gs ao co wr) : ∃ φ', Inv w0.heap.size w0 φ0 φ' wr ∧ SlV φ' ao co gs := by
  obtain ⟨φ, hi, ini, hs, al, cl, la, h1, h2, h3, h4, h5⟩ := h
  obtain ⟨φ1, l1, n1, i1, o1, s1⟩ := h3.rel2
  obtain ⟨φ2, l2, i2, s2, _⟩ := o1.release i1
  refine ⟨φ2, ⟨i2.bel, i2.base, i2.fz, (h1.trans l1).trans l2, fun b hb => (i2.new b hb).trans ((n1 b hb).trans (h2 b hb))⟩, ?_⟩
  rcases h5 with ⟨rfl, rfl, _⟩ | ⟨rfl, rfl⟩
  · exact s2.ofHdr (gs := []) trivial
  · exact s2.ofHdr (HdrL.snoc ⟨s1.mono l2, rfl⟩ ((h4.mono l1).mono l2))
/-- A new group is laid: what the append of a nil header asks and gives. -/
theorem CsSt.open_ {w0 wr : World} {φ0 : Phi} {gs : List (List Cdg)} {ao : Option Addr} {co : Nat} (h : CsSt w0 φ0 gs ao co wr) : ∃ (φ : Phi) (hs : List Hdr), φ0.le φ ∧ (∀ b, b < w0.heap.size → φ b = φ0 b) ∧ hs.length = gs.length ∧ HdrL φ hs gs ∧ Inv w0.heap.size w0 φ φ wr ∧ Own w0.heap.size φ wr 23 ao co hs := by
  obtain ⟨φ, hi, ini, hs, al, cl, la, h1, h2, h3, h4, h5⟩ := h
  obtain ⟨φ1, l1, n1, i1, o1, s1⟩ := h3.rel2
  have hg : HdrL φ1 hs gs := by
    rcases h5 with ⟨rfl, rfl, _⟩ | ⟨rfl, rfl⟩
    · trivial
    · exact HdrL.snoc ⟨s1, rfl⟩ (h4.mono l1)
  exact ⟨φ1, hs, h1.trans l1, fun b hb => (n1 b hb).trans (h2 b hb), hg.len, hg, i1, o1⟩
theorem far {w w' : World} {b o : Nat} (h : w'.heap[b]? = w.heap[b]?) : w'.cell? ⟨b, o, none⟩ = w.cell? ⟨b, o, none⟩ ∧ w'.frozen? ⟨b, o, none⟩ = w.frozen? ⟨b, o, none⟩ := by
  unfold World.cell? World.frozen?
  dsimp only
  rw [h]; exact ⟨rfl, rfl⟩
theorem rowne {a : Option Addr} {g : Nat} (h : ∀ y, a = some y → y.block ≠ g) : some g ≠ a.map (·.block) := by
  cases a with
  | none => simp
  | some y => simpa using (h y rfl).symm
def SlPostL {α : Type} [Rep α] (xs : List α) (φ : Phi) (w : World) (e : Ending) (w' : World) : Prop :=
  ∃ a cap φ', e = .returned (.slice a xs.length cap) ∧ Inv w.heap.size w φ φ' w' ∧ SlV φ' a cap xs
set_option maxRecDepth 100000 in
set_option maxHeartbeats 2000000 in
theorem cases_any {w : World} {ac : Option Addr} {cc nc : Nat} {cs : List Cdg} {φ : Phi} (hφ : Fz φ w) (sc : SlV φ ac cc cs) (hnc : Hid (cs.length = nc)) (hn2 : nc ≤ 20000) :
    Calls Tryz.prog 26 #[.slice ac nc cc] w (SlPostL (grpK cs nc) φ w) := by
  have hSt : Hid (CsSt w φ (grpK cs 0) none 0 w) := Lib.hid (CsSt.start hφ)
  go_enter Tryz.func26, Tryz.ntmps26
  go_wp2
  go_loopw [3, 8] (fun o i wr => ∃ (k ng : Nat) (ao : Option Addr) (co : Nat), k ≤ nc ∧ i = .int .i64 k ∧ o = .slice ao ng co ∧ Hid ((grpK cs k).length = ng) ∧ Hid (CsSt w φ (grpK cs k) ao co wr)) (fun _ i _ => nc - (intOf i).toNat)
  case atStart => exact ⟨0, 0, none, 0, Nat.zero_le _, rfl, rfl, Lib.hid rfl, hSt⟩
  case round =>
    clear hSt
    obtain ⟨k, ng, ao, co, hk, rfl, rfl, hng, hSt⟩ := hrel
    by_cases hlt : k < nc
    · obtain ⟨b, off, rfl, f⟩ := sc.cdgD hnc hlt
      obtain ⟨hb, d1, d2, d3⟩ := f k hlt wr hSt.out.fz
      have HP := Lib.hid (fun h : 0 < k => (f (k - 1) (by omega) wr hSt.out.fz).2.1)
      have hgk : Hid (grpK cs (k + 1) = if k = 0 ∨ (cs.getD k cdg0).1 ≠ (cs.getD (k - 1) cdg0).1 then grpK cs k ++ [[cs.getD k cdg0]] else (grpK cs k).dropLast ++ [(grpK cs k).getLastD [] ++ [cs.getD k cdg0]]) := Lib.hid rfl
      have hgo := Lib.hid (grpK_ok cs k (by rw [hnc.out]; omega))
      have hngk : ng ≤ 20000 := by have := hgo.out.2.1; rw [hng.out] at this; omega
      clear f
      generalize (cs.getD (k - 1) cdg0).1 = y1 at *
      generalize hX : cs.getD k cdg0 = X at *
      obtain ⟨x1, x2, x3⟩ := X
      replace hX := Lib.hid hX
      dsimp only at d1 d2 d3
      have hB0 := Lib.hid (Blk.new wr #[.int .i64 x1, .int .i64 x2, .int .i64 x3] 70)
      have hbx0 := Lib.hid (box_at (w := wr) (cs := #[.int .i64 x1, .int .i64 x2, .int .i64 x3]) (T := 70) 0)
      by_cases hnew : k = 0 ∨ x1 ≠ y1
      · have hg1 : Hid (grpK cs (k + 1) = grpK cs k ++ [[(x1, x2, x3)]]) := Lib.hid (by rw [hgk.out, if_pos hnew])
        obtain ⟨φ1, hs, hle1, hnw1, hhl, hhd1, hi1, ho1⟩ := (hSt.out.callB ((Below.refl _ _).alloc (Nat.le_refl _) (.cells #[.int .i64 x1, .int .i64 x2, .int .i64 x3] 70))).open_
        have hao : Hid (∀ x, ao = some x → x.block < wr.heap.size) := Lib.hid (by obtain ⟨_, _, _, _, _, _, _, _, _, hs, _⟩ := hSt.out; exact fun x hx => (hs.o1.lt x hx).2)
        have HI1 := Lib.hid hi1
        have HO1 := Lib.hid ho1
        have HLE := Lib.hid hle1
        have HNW := Lib.hid hnw1
        have HHD := Lib.hid hhd1
        have hhl2 : Hid (hs.length = ng) := Lib.hid (hhl.trans hng.out)
        clear hi1 ho1 hle1 hnw1 hhd1 hhl hSt
        by_cases h0 : k = 0
        · have h0i : ((k : Int) == 0) = true := by simp [h0]
          have H0 := Lib.hid h0
          clear h0 hnew
          go_wp2
          go_quiet (fail)
          have hinq := HI1.out.drewN nq
          have honq := HO1.out.drewN nq
          have hBq : Hid (Blk ((wr.alloc (.cells #[.int .i64 x1, .int .i64 x2, .int .i64 x3] 70)).drewN nq) wr.heap.size #[.int .i64 x1, .int .i64 x2, .int .i64 x3] 70) := Lib.hid hB0.out
          clear HI1 HO1 d1 d2 d3 hb 
          generalize (wr.alloc (.cells #[.int .i64 x1, .int .i64 x2, .int .i64 x3] 70)).drewN nq = wj at *
          generalize wr.heap.size = bx at *
          rw [← hhl2.out]
          have hhl3 : hs.length ≤ 20000 := by rw [hhl2.out]; omega
          go_wp2_with (at_builtin; (refine wpList_app1F (α := Hdr) rfl _ _ 67 rfl slCC hinq ao co _ honq _ _ hdr0 rfl rfl 1 rfl (by omega) ?_); intro a2 c2 w4 hi4 ho4 hg4 hf4)
          obtain ⟨nh, hnh⟩ : ∃ nh, hs.length = nh := ⟨_, rfl⟩
          obtain ⟨N, hN⟩ : ∃ N, N = nh + 1 := ⟨_, rfl⟩
          have hl6 : Hid ((hs ++ [hdr0]).length = N) := Lib.hid (by simp [hnh, hN])
          have hhd : Hid ((hs ++ [hdr0]).getD nh hdr0 = hdr0) := Lib.hid (by rw [← hnh]; simp)
          have hS6 : Hid (Ow2 w φ1 23 70 a2 c2 (hs ++ [hdr0]) none 0 ([] : List Cdg) w4) := Lib.hid ⟨hi4, ho4, Own.nil _ _ _ _, fun _ _ _ h => by cases h⟩
          have hBj : Hid (Blk w4 bx #[.int .i64 x1, .int .i64 x2, .int .i64 x3] 70) := Lib.hid ((hg4.block bx (by have := hBq.out.lt; simp; omega) (fun e => by
            cases ao with
            | none => cases e
            | some z => have := hao.out z rfl; simp at e; omega)).trans (hBq.out.alloc _))
          have hnh2 := Lib.hid hnh
          rw [hnh] at hhl3
          rw [show hs.length + 1 = N by rw [hnh, hN]]
          clear hi4 ho4 hg4 hf4 hinq honq hBq hnh
          have HN := Lib.hid hN
          obtain ⟨g, hga, hgB, hgl, hgf, hgc, hgz, _⟩ := hS6.out.o1.hdrD hl6 (k := nh) (by omega)
          subst hga
          have hb0 : w4.cell? ⟨bx, 0, none⟩ = some (.int .i64 x1) := hBj.out.cell 0
          have hb1 : w4.cell? ⟨bx, 1, none⟩ = some (.int .i64 x2) := hBj.out.cell 1
          have hb2 : w4.cell? ⟨bx, 2, none⟩ = some (.int .i64 x3) := hBj.out.cell 2
          have hblt := hBj.out.lt
          have hw1 : IntKind.i64.wrap ((N : Int) - 1) = nh := by rw [IntWalk.i64_in _ (by omega)]; omega
          have hi1 : (nh : Int) < (N : Int) := by omega
          have hi2 : (0 : Int) ≤ (nh : Int) := by omega
          rw [hhd.out] at hgc
          dsimp only at hgc
          clear hN
          have hlg : Hid ((∀ y, (none : Option Addr) = some y → y.block ≠ g ∧ y.block ≠ bx)) := Lib.hid (fun y hy => ⟨fun e => hS6.out.ne _ y rfl hy e.symm, (by cases hy)⟩)
          have hfz : ∀ o, (w4.alloc o).frozen? ⟨g, nh, none⟩ = false := fun o => (((Below.refl _ _).alloc (Nat.le_refl _) o).frozen (p := ⟨g, nh, none⟩) hgl).trans hgz
          have hfd : ∀ o, (w4.alloc o).drew.frozen? ⟨g, nh, none⟩ = false := hfz
          go_region_law ((refine step_appF (α := Cdg) (by rfl) _ _ _ (by rfl) slC (hS6.out.alloc _).inv.drew (none : Option Addr) 0 _ (by rfl) (hS6.out.alloc _).o2.drew ⟨w4.heap.size, 0, none⟩ 1 [(x1, x2, x3)] [.int .i64 x1, .int .i64 x2, .int .i64 x3] 1 (by rfl) (by rfl) (RepL.single ⟨[.int .i64 x1], [.int .i64 x2, .int .i64 x3], rfl, rfl, [.int .i64 x2], [.int .i64 x3], rfl, rfl, rfl⟩) (World.news_of_block (cs := #[.int .i64 x1, .int .i64 x2, .int .i64 x3]) (t := 70) (fr := (0, 0)) (heap_alloc_new w4 _)) (by show (([] : List Cdg).length + 1) * 24 ≤ 140737488355328; (try simp only [List.length_nil]); omega) ?_; intro a3 c3 w5 hi5 ho5 hg5 hf5; have hS7 := (((hS6.out.alloc (.cells #[.int .i64 x1, .int .i64 x2, .int .i64 x3] 70)).drewN 1).swap.step1 hi5 ho5 hg5 hf5).swap; have HS7 := Lib.hid hS7; have kg := far (o := nh) (hg5.block g (by simp; omega) (rowne (fun y hy => (hlg.out y hy).1))); have kb := fun o => far (o := o) (hg5.block bx (by simp; omega) (rowne (fun y hy => (hlg.out y hy).2))); have k0 : w5.cell? ⟨g, nh, none⟩ = some (.slice (none : Option Addr) ([] : List Cdg).length 0) := kg.1.trans (((Below.refl _ _).alloc (Nat.le_refl _) _).cell (p := ⟨g, nh, none⟩) hgl |>.trans hgc); have k1 : w5.frozen? ⟨g, nh, none⟩ = false := kg.2.trans (((Below.refl _ _).alloc (Nat.le_refl _) _).frozen (p := ⟨g, nh, none⟩) hgl |>.trans hgz); have k2 : w5.cell? ⟨bx, 0, none⟩ = some (.int .i64 x1) := (kb 0).1.trans (((Below.refl _ _).alloc (Nat.le_refl _) _).cell (p := ⟨bx, 0, none⟩) hblt |>.trans hb0); have k3 : w5.cell? ⟨bx, 1, none⟩ = some (.int .i64 x2) := (kb 1).1.trans (((Below.refl _ _).alloc (Nat.le_refl _) _).cell (p := ⟨bx, 1, none⟩) hblt |>.trans hb1); have k4 : w5.cell? ⟨bx, 2, none⟩ = some (.int .i64 x3) := (kb 2).1.trans (((Below.refl _ _).alloc (Nat.le_refl _) _).cell (p := ⟨bx, 2, none⟩) hblt |>.trans hb2); clear hS7 hi5 ho5 hg5 hf5 kg kb))
          clear hw1 hfz hfd
          all_goals
            obtain ⟨g', hga', hgB', hgl', hgf', hgc', hgz', hset⟩ := HS7.out.o1.hdrD hl6 (k := nh) (by have := HN.out; omega)
            cases hga'
            have hfin := Lib.hid (hset ⟨a3, ([] : List Cdg).length + 1, c3⟩ w φ1 HS7.out.inv)
            clear hset
            have hS8 := Lib.hid (HS7.out.put1 hfin.out.1 hfin.out.2)
            go_wp2
            go_roundw
            case rel =>
              refine ⟨k + 1, N, _, c2, by omega, by go_num, rfl, Lib.hid (by rw [hg1.out, List.length_append, hng.out, ← hhl2.out, hnh2.out, HN.out]; rfl), Lib.hid ⟨φ1, hs, grpK cs k, _, a3, c3, [(x1, x2, x3)], HLE.out, HNW.out, hS8.out, HHD.out, .inr ⟨hg1.out, ?_⟩⟩⟩
              rw [← hnh2.out]; simp
            case measure => (simp [intOf] <;> omega)
        · have h0i : ((k : Int) == 0) = false := by simp [h0]
          have hne : (x1 != y1) = true := by have := hnew.resolve_left h0; simpa using this
          have hpp := HP.out (by omega)
          have hpp' : (wr.alloc (.cells #[.int .i64 x1, .int .i64 x2, .int .i64 x3] 70)).cell? ⟨b, off + (k - 1) * 3, none⟩ = some (.int .i64 y1) := (((Below.refl wr.heap.size wr).alloc (Nat.le_refl _) _).cell (p := ⟨b, off + (k - 1) * 3, none⟩) hb).trans hpp
          have hb0' : (wr.alloc (.cells #[.int .i64 x1, .int .i64 x2, .int .i64 x3] 70)).cell? ⟨wr.heap.size, 0, none⟩ = some (.int .i64 x1) := box_at 0
          have hix : 0 ≤ (k : Int) - 1 := by omega
          have hix2 : (k : Int) - 1 < nc := by omega
          have hw0 : IntKind.i64.wrap ((k : Int) - 1) = k - 1 := IntWalk.i64_in _ (by omega)
          have hto : ((k : Int) - 1).toNat = k - 1 := by omega
          clear hnew
          go_wp2
          go_quiet (fail)
          have hinq := HI1.out.drewN nq
          have honq := HO1.out.drewN nq
          have hBq : Hid (Blk ((wr.alloc (.cells #[.int .i64 x1, .int .i64 x2, .int .i64 x3] 70)).drewN nq) wr.heap.size #[.int .i64 x1, .int .i64 x2, .int .i64 x3] 70) := Lib.hid hB0.out
          clear HI1 HO1 d1 d2 d3 hb hpp hpp' hb0' hw0 hto
          generalize (wr.alloc (.cells #[.int .i64 x1, .int .i64 x2, .int .i64 x3] 70)).drewN nq = wj at *
          generalize wr.heap.size = bx at *
          rw [← hhl2.out]
          have hhl3 : hs.length ≤ 20000 := by rw [hhl2.out]; omega
          go_wp2_with (at_builtin; (refine wpList_app1F (α := Hdr) rfl _ _ 67 rfl slCC hinq ao co _ honq _ _ hdr0 rfl rfl 1 rfl (by omega) ?_); intro a2 c2 w4 hi4 ho4 hg4 hf4)
          obtain ⟨nh, hnh⟩ : ∃ nh, hs.length = nh := ⟨_, rfl⟩
          obtain ⟨N, hN⟩ : ∃ N, N = nh + 1 := ⟨_, rfl⟩
          have hl6 : Hid ((hs ++ [hdr0]).length = N) := Lib.hid (by simp [hnh, hN])
          have hhd : Hid ((hs ++ [hdr0]).getD nh hdr0 = hdr0) := Lib.hid (by rw [← hnh]; simp)
          have hS6 : Hid (Ow2 w φ1 23 70 a2 c2 (hs ++ [hdr0]) none 0 ([] : List Cdg) w4) := Lib.hid ⟨hi4, ho4, Own.nil _ _ _ _, fun _ _ _ h => by cases h⟩
          have hBj : Hid (Blk w4 bx #[.int .i64 x1, .int .i64 x2, .int .i64 x3] 70) := Lib.hid ((hg4.block bx (by have := hBq.out.lt; simp; omega) (fun e => by
            cases ao with
            | none => cases e
            | some z => have := hao.out z rfl; simp at e; omega)).trans (hBq.out.alloc _))
          have hnh2 := Lib.hid hnh
          rw [hnh] at hhl3
          rw [show hs.length + 1 = N by rw [hnh, hN]]
          clear hi4 ho4 hg4 hf4 hinq honq hBq hnh
          have HN := Lib.hid hN
          obtain ⟨g, hga, hgB, hgl, hgf, hgc, hgz, _⟩ := hS6.out.o1.hdrD hl6 (k := nh) (by omega)
          subst hga
          have hb0 : w4.cell? ⟨bx, 0, none⟩ = some (.int .i64 x1) := hBj.out.cell 0
          have hb1 : w4.cell? ⟨bx, 1, none⟩ = some (.int .i64 x2) := hBj.out.cell 1
          have hb2 : w4.cell? ⟨bx, 2, none⟩ = some (.int .i64 x3) := hBj.out.cell 2
          have hblt := hBj.out.lt
          have hw1 : IntKind.i64.wrap ((N : Int) - 1) = nh := by rw [IntWalk.i64_in _ (by omega)]; omega
          have hi1 : (nh : Int) < (N : Int) := by omega
          have hi2 : (0 : Int) ≤ (nh : Int) := by omega
          rw [hhd.out] at hgc
          dsimp only at hgc
          clear hN
          have hlg : Hid ((∀ y, (none : Option Addr) = some y → y.block ≠ g ∧ y.block ≠ bx)) := Lib.hid (fun y hy => ⟨fun e => hS6.out.ne _ y rfl hy e.symm, (by cases hy)⟩)
          have hfz : ∀ o, (w4.alloc o).frozen? ⟨g, nh, none⟩ = false := fun o => (((Below.refl _ _).alloc (Nat.le_refl _) o).frozen (p := ⟨g, nh, none⟩) hgl).trans hgz
          have hfd : ∀ o, (w4.alloc o).drew.frozen? ⟨g, nh, none⟩ = false := hfz
          go_region_law ((refine step_appF (α := Cdg) (by rfl) _ _ _ (by rfl) slC (hS6.out.alloc _).inv.drew (none : Option Addr) 0 _ (by rfl) (hS6.out.alloc _).o2.drew ⟨w4.heap.size, 0, none⟩ 1 [(x1, x2, x3)] [.int .i64 x1, .int .i64 x2, .int .i64 x3] 1 (by rfl) (by rfl) (RepL.single ⟨[.int .i64 x1], [.int .i64 x2, .int .i64 x3], rfl, rfl, [.int .i64 x2], [.int .i64 x3], rfl, rfl, rfl⟩) (World.news_of_block (cs := #[.int .i64 x1, .int .i64 x2, .int .i64 x3]) (t := 70) (fr := (0, 0)) (heap_alloc_new w4 _)) (by show (([] : List Cdg).length + 1) * 24 ≤ 140737488355328; (try simp only [List.length_nil]); omega) ?_; intro a3 c3 w5 hi5 ho5 hg5 hf5; have hS7 := (((hS6.out.alloc (.cells #[.int .i64 x1, .int .i64 x2, .int .i64 x3] 70)).drewN 1).swap.step1 hi5 ho5 hg5 hf5).swap; have HS7 := Lib.hid hS7; have kg := far (o := nh) (hg5.block g (by simp; omega) (rowne (fun y hy => (hlg.out y hy).1))); have kb := fun o => far (o := o) (hg5.block bx (by simp; omega) (rowne (fun y hy => (hlg.out y hy).2))); have k0 : w5.cell? ⟨g, nh, none⟩ = some (.slice (none : Option Addr) ([] : List Cdg).length 0) := kg.1.trans (((Below.refl _ _).alloc (Nat.le_refl _) _).cell (p := ⟨g, nh, none⟩) hgl |>.trans hgc); have k1 : w5.frozen? ⟨g, nh, none⟩ = false := kg.2.trans (((Below.refl _ _).alloc (Nat.le_refl _) _).frozen (p := ⟨g, nh, none⟩) hgl |>.trans hgz); have k2 : w5.cell? ⟨bx, 0, none⟩ = some (.int .i64 x1) := (kb 0).1.trans (((Below.refl _ _).alloc (Nat.le_refl _) _).cell (p := ⟨bx, 0, none⟩) hblt |>.trans hb0); have k3 : w5.cell? ⟨bx, 1, none⟩ = some (.int .i64 x2) := (kb 1).1.trans (((Below.refl _ _).alloc (Nat.le_refl _) _).cell (p := ⟨bx, 1, none⟩) hblt |>.trans hb1); have k4 : w5.cell? ⟨bx, 2, none⟩ = some (.int .i64 x3) := (kb 2).1.trans (((Below.refl _ _).alloc (Nat.le_refl _) _).cell (p := ⟨bx, 2, none⟩) hblt |>.trans hb2); clear hS7 hi5 ho5 hg5 hf5 kg kb))
          clear hw1 hfz hfd
          all_goals
            obtain ⟨g', hga', hgB', hgl', hgf', hgc', hgz', hset⟩ := HS7.out.o1.hdrD hl6 (k := nh) (by have := HN.out; omega)
            cases hga'
            have hfin := Lib.hid (hset ⟨a3, ([] : List Cdg).length + 1, c3⟩ w φ1 HS7.out.inv)
            clear hset
            have hS8 := Lib.hid (HS7.out.put1 hfin.out.1 hfin.out.2)
            go_wp2
            go_roundw
            case rel =>
              refine ⟨k + 1, N, _, c2, by omega, by go_num, rfl, Lib.hid (by rw [hg1.out, List.length_append, hng.out, ← hhl2.out, hnh2.out, HN.out]; rfl), Lib.hid ⟨φ1, hs, grpK cs k, _, a3, c3, [(x1, x2, x3)], HLE.out, HNW.out, hS8.out, HHD.out, .inr ⟨hg1.out, ?_⟩⟩⟩
              rw [← hnh2.out]; simp
            case measure => (simp [intOf] <;> omega)
      · have hg1 : Hid (grpK cs (k + 1) = (grpK cs k).dropLast ++ [(grpK cs k).getLastD [] ++ [(x1, x2, x3)]]) := Lib.hid (by rw [hgk.out, if_neg hnew])
        have hk0 : 0 < k := by omega
        have h0i : ((k : Int) == 0) = false := by simp; omega
        have hne : (x1 != y1) = false := by
          have : x1 = y1 := Classical.not_not.1 (fun h => hnew (.inr h))
          simp [this]
        have hpp := HP.out hk0
        have hpp' : (wr.alloc (.cells #[.int .i64 x1, .int .i64 x2, .int .i64 x3] 70)).cell? ⟨b, off + (k - 1) * 3, none⟩ = some (.int .i64 y1) := (((Below.refl wr.heap.size wr).alloc (Nat.le_refl _) _).cell (p := ⟨b, off + (k - 1) * 3, none⟩) hb).trans hpp
        have hb0' : (wr.alloc (.cells #[.int .i64 x1, .int .i64 x2, .int .i64 x3] 70)).cell? ⟨wr.heap.size, 0, none⟩ = some (.int .i64 x1) := box_at 0
        have hix : 0 ≤ (k : Int) - 1 := by omega
        have hix2 : (k : Int) - 1 < nc := by omega
        have hw0 : IntKind.i64.wrap ((k : Int) - 1) = k - 1 := IntWalk.i64_in _ (by omega)
        have hto : ((k : Int) - 1).toNat = k - 1 := by omega
        clear hnew
        go_wp2
        go_quiet (fail)
        go_wp2
        clear hw0 hto hpp hpp' hb0'
        have hSx := hSt.out
        obtain ⟨φ1, hi, ini, hs, al, cl, la, hle1, hnw1, hS, hhd1, ⟨hgz, _⟩ | ⟨hgs, hhs⟩⟩ := hSx
        · exact absurd hgz (hgo.out.2.2 hk0)
        have hal : Hid (∀ y, al = some y → y.block < wr.heap.size) := Lib.hid (fun y hy => (hS.o2.lt y hy).2)
        have hlast : Hid ((grpK cs k).getLastD [] = la ∧ (grpK cs k).dropLast = ini) := Lib.hid (by rw [hgs]; simp)
        have hla : la.length ≤ 20000 := by have := (hgo.out.1 la (by rw [hgs]; simp)).2.1; omega
        obtain ⟨nh, rfl⟩ : ∃ nh, ng = nh + 1 := ⟨ng - 1, by have := hng.out; rw [hgs] at this; simp at this; omega⟩
        have hnhi : hi.length = nh := by have := hng.out; rw [hgs] at this; simp at this; rw [hhd1.len]; omega
        obtain ⟨N, hN⟩ : ∃ N, nh + 1 = N := ⟨_, rfl⟩
        rw [hN]
        have hl6 : Hid (hs.length = N) := Lib.hid (by rw [hhs]; simp [hnhi, hN])
        have HN := Lib.hid hN
        have hhd : Hid (hs.getD nh hdr0 = ⟨al, la.length, cl⟩) := Lib.hid (by rw [hhs, ← hnhi]; simp)
        have hS6 : Hid (Ow2 w φ1 23 70 ao co hs al cl la ((wr.alloc (.cells #[.int .i64 x1, .int .i64 x2, .int .i64 x3] 70)).drewN nq)) := Lib.hid ((hS.alloc _).drewN nq)
        have hBj : Hid (Blk ((wr.alloc (.cells #[.int .i64 x1, .int .i64 x2, .int .i64 x3] 70)).drewN nq) wr.heap.size #[.int .i64 x1, .int .i64 x2, .int .i64 x3] 70) := Lib.hid hB0.out
        have HHS := Lib.hid (And.intro hhs (And.intro hgs hnhi))
        have HLE := Lib.hid hle1
        have HNW := Lib.hid hnw1
        have HHD := Lib.hid hhd1
        clear hS hhs hgs hnhi hle1 hnw1 hhd1 hSt d1 d2 d3 hb
        generalize (wr.alloc (.cells #[.int .i64 x1, .int .i64 x2, .int .i64 x3] 70)).drewN nq = wj at *
        generalize wr.heap.size = bx at *
        obtain ⟨g, hga, hgB, hgl, hgf, hgc, hgz, _⟩ := hS6.out.o1.hdrD hl6 (k := nh) (by omega)
        subst hga
        have hb0 : wj.cell? ⟨bx, 0, none⟩ = some (.int .i64 x1) := hBj.out.cell 0
        have hb1 : wj.cell? ⟨bx, 1, none⟩ = some (.int .i64 x2) := hBj.out.cell 1
        have hb2 : wj.cell? ⟨bx, 2, none⟩ = some (.int .i64 x3) := hBj.out.cell 2
        have hblt := hBj.out.lt
        have hw1 : IntKind.i64.wrap ((N : Int) - 1) = nh := by rw [IntWalk.i64_in _ (by omega)]; omega
        have hi1 : (nh : Int) < (N : Int) := by omega
        have hi2 : (0 : Int) ≤ (nh : Int) := by omega
        rw [hhd.out] at hgc
        dsimp only at hgc
        clear hN
        have hlg : Hid ((∀ y, al = some y → y.block ≠ g ∧ y.block ≠ bx)) := Lib.hid (fun y hy => ⟨fun e => hS6.out.ne _ y rfl hy e.symm, by have := hal.out y hy; omega⟩)
        have hfz : ∀ o, (wj.alloc o).frozen? ⟨g, nh, none⟩ = false := fun o => (((Below.refl _ _).alloc (Nat.le_refl _) o).frozen (p := ⟨g, nh, none⟩) hgl).trans hgz
        have hfd : ∀ o, (wj.alloc o).drew.frozen? ⟨g, nh, none⟩ = false := hfz
        go_region_law ((refine step_appF (α := Cdg) (by rfl) _ _ _ (by rfl) slC (hS6.out.alloc _).inv.drew al cl _ (by rfl) (hS6.out.alloc _).o2.drew ⟨wj.heap.size, 0, none⟩ 1 [(x1, x2, x3)] [.int .i64 x1, .int .i64 x2, .int .i64 x3] 1 (by rfl) (by rfl) (RepL.single ⟨[.int .i64 x1], [.int .i64 x2, .int .i64 x3], rfl, rfl, [.int .i64 x2], [.int .i64 x3], rfl, rfl, rfl⟩) (World.news_of_block (cs := #[.int .i64 x1, .int .i64 x2, .int .i64 x3]) (t := 70) (fr := (0, 0)) (heap_alloc_new wj _)) (by show (la.length + 1) * 24 ≤ 140737488355328; (try simp only [List.length_nil]); omega) ?_; intro a3 c3 w5 hi5 ho5 hg5 hf5; have hS7 := (((hS6.out.alloc (.cells #[.int .i64 x1, .int .i64 x2, .int .i64 x3] 70)).drewN 1).swap.step1 hi5 ho5 hg5 hf5).swap; have HS7 := Lib.hid hS7; have kg := far (o := nh) (hg5.block g (by simp; omega) (rowne (fun y hy => (hlg.out y hy).1))); have kb := fun o => far (o := o) (hg5.block bx (by simp; omega) (rowne (fun y hy => (hlg.out y hy).2))); have k0 : w5.cell? ⟨g, nh, none⟩ = some (.slice al la.length cl) := kg.1.trans (((Below.refl _ _).alloc (Nat.le_refl _) _).cell (p := ⟨g, nh, none⟩) hgl |>.trans hgc); have k1 : w5.frozen? ⟨g, nh, none⟩ = false := kg.2.trans (((Below.refl _ _).alloc (Nat.le_refl _) _).frozen (p := ⟨g, nh, none⟩) hgl |>.trans hgz); have k2 : w5.cell? ⟨bx, 0, none⟩ = some (.int .i64 x1) := (kb 0).1.trans (((Below.refl _ _).alloc (Nat.le_refl _) _).cell (p := ⟨bx, 0, none⟩) hblt |>.trans hb0); have k3 : w5.cell? ⟨bx, 1, none⟩ = some (.int .i64 x2) := (kb 1).1.trans (((Below.refl _ _).alloc (Nat.le_refl _) _).cell (p := ⟨bx, 1, none⟩) hblt |>.trans hb1); have k4 : w5.cell? ⟨bx, 2, none⟩ = some (.int .i64 x3) := (kb 2).1.trans (((Below.refl _ _).alloc (Nat.le_refl _) _).cell (p := ⟨bx, 2, none⟩) hblt |>.trans hb2); clear hS7 hi5 ho5 hg5 hf5 kg kb))
        clear hw1 hfz hfd
        all_goals
          obtain ⟨g', hga', hgB', hgl', hgf', hgc', hgz', hset⟩ := HS7.out.o1.hdrD hl6 (k := nh) (by have := HN.out; omega)
          cases hga'
          have hfin := Lib.hid (hset ⟨a3, la.length + 1, c3⟩ w φ1 HS7.out.inv)
          clear hset
          have hS8 := Lib.hid (HS7.out.put1 hfin.out.1 hfin.out.2)
          go_wp2
          go_roundw
          case rel =>
            refine ⟨k + 1, N, _, co, by omega, by go_num, rfl, Lib.hid ?_, Lib.hid ⟨φ1, hi, ini, _, a3, c3, la ++ [(x1, x2, x3)], HLE.out, HNW.out, hS8.out, HHD.out, .inr ⟨?_, ?_⟩⟩⟩
            · rw [hg1.out, hlast.out.2]; have := HHS.out.2.2; rw [HHD.out.len] at this; have := HN.out; simp; omega
            · rw [hg1.out, hlast.out.1, hlast.out.2]
            · rw [HHS.out.1, ← HHS.out.2.2]; simp
          case measure => (simp [intOf] <;> omega)
    · obtain rfl : k = nc := by omega
      go_wp2
      go_ret
      obtain ⟨φ', h1, h2⟩ := hSt.out.fin
      rw [← hng.out]
      exact ⟨ao, co, φ', rfl, h1, h2⟩
set_option maxRecDepth 100000 in
set_option maxHeartbeats 2000000 in
theorem Rcases_any {w : World} {ac : Option Addr} {cc nc : Nat} {cs : List Cdg} {φ : Phi} (hφ : Fz φ w) (sc : SlV φ ac cc cs) (hnc : Hid (cs.length = nc)) (hn2 : nc ≤ 20000) :
    Calls Tryz.prog 31 #[.slice ac nc cc] w (SlPostL (grpK cs nc) φ w) := by
  have hSt : Hid (CsSt w φ (grpK cs 0) none 0 w) := Lib.hid (CsSt.start hφ)
  go_enter Tryz.func31, Tryz.ntmps31
  go_wp2
  go_loopw [3, 8] (fun o i wr => ∃ (k ng : Nat) (ao : Option Addr) (co : Nat), k ≤ nc ∧ i = .int .i64 k ∧ o = .slice ao ng co ∧ Hid ((grpK cs k).length = ng) ∧ Hid (CsSt w φ (grpK cs k) ao co wr)) (fun _ i _ => nc - (intOf i).toNat)
  case atStart => exact ⟨0, 0, none, 0, Nat.zero_le _, rfl, rfl, Lib.hid rfl, hSt⟩
  case round =>
    clear hSt
    obtain ⟨k, ng, ao, co, hk, rfl, rfl, hng, hSt⟩ := hrel
    by_cases hlt : k < nc
    · obtain ⟨b, off, rfl, f⟩ := sc.cdgD hnc hlt
      obtain ⟨hb, d1, d2, d3⟩ := f k hlt wr hSt.out.fz
      have HP := Lib.hid (fun h : 0 < k => (f (k - 1) (by omega) wr hSt.out.fz).2.1)
      have hgk : Hid (grpK cs (k + 1) = if k = 0 ∨ (cs.getD k cdg0).1 ≠ (cs.getD (k - 1) cdg0).1 then grpK cs k ++ [[cs.getD k cdg0]] else (grpK cs k).dropLast ++ [(grpK cs k).getLastD [] ++ [cs.getD k cdg0]]) := Lib.hid rfl
      have hgo := Lib.hid (grpK_ok cs k (by rw [hnc.out]; omega))
      have hngk : ng ≤ 20000 := by have := hgo.out.2.1; rw [hng.out] at this; omega
      clear f
      generalize (cs.getD (k - 1) cdg0).1 = y1 at *
      generalize hX : cs.getD k cdg0 = X at *
      obtain ⟨x1, x2, x3⟩ := X
      replace hX := Lib.hid hX
      dsimp only at d1 d2 d3
      have hB0 := Lib.hid (Blk.new wr #[.int .i64 x1, .int .i64 x2, .int .i64 x3] 70)
      have hbx0 := Lib.hid (box_at (w := wr) (cs := #[.int .i64 x1, .int .i64 x2, .int .i64 x3]) (T := 70) 0)
      by_cases hnew : k = 0 ∨ x1 ≠ y1
      · have hg1 : Hid (grpK cs (k + 1) = grpK cs k ++ [[(x1, x2, x3)]]) := Lib.hid (by rw [hgk.out, if_pos hnew])
        obtain ⟨φ1, hs, hle1, hnw1, hhl, hhd1, hi1, ho1⟩ := (hSt.out.callB ((Below.refl _ _).alloc (Nat.le_refl _) (.cells #[.int .i64 x1, .int .i64 x2, .int .i64 x3] 70))).open_
        have hao : Hid (∀ x, ao = some x → x.block < wr.heap.size) := Lib.hid (by obtain ⟨_, _, _, _, _, _, _, _, _, hs, _⟩ := hSt.out; exact fun x hx => (hs.o1.lt x hx).2)
        have HI1 := Lib.hid hi1
        have HO1 := Lib.hid ho1
        have HLE := Lib.hid hle1
        have HNW := Lib.hid hnw1
        have HHD := Lib.hid hhd1
        have hhl2 : Hid (hs.length = ng) := Lib.hid (hhl.trans hng.out)
        clear hi1 ho1 hle1 hnw1 hhd1 hhl hSt
        by_cases h0 : k = 0
        · have h0i : ((k : Int) == 0) = true := by simp [h0]
          have H0 := Lib.hid h0
          clear h0 hnew
          go_wp2
          go_quiet (fail)
          have hinq := HI1.out.drewN nq
          have honq := HO1.out.drewN nq
          have hBq : Hid (Blk ((wr.alloc (.cells #[.int .i64 x1, .int .i64 x2, .int .i64 x3] 70)).drewN nq) wr.heap.size #[.int .i64 x1, .int .i64 x2, .int .i64 x3] 70) := Lib.hid hB0.out
          clear HI1 HO1 d1 d2 d3 hb 
          generalize (wr.alloc (.cells #[.int .i64 x1, .int .i64 x2, .int .i64 x3] 70)).drewN nq = wj at *
          generalize wr.heap.size = bx at *
          rw [← hhl2.out]
          have hhl3 : hs.length ≤ 20000 := by rw [hhl2.out]; omega
          go_wp2_with (at_builtin; (refine wpList_app1F (α := Hdr) rfl _ _ 67 rfl slCC hinq ao co _ honq _ _ hdr0 rfl rfl 1 rfl (by omega) ?_); intro a2 c2 w4 hi4 ho4 hg4 hf4)
          obtain ⟨nh, hnh⟩ : ∃ nh, hs.length = nh := ⟨_, rfl⟩
          obtain ⟨N, hN⟩ : ∃ N, N = nh + 1 := ⟨_, rfl⟩
          have hl6 : Hid ((hs ++ [hdr0]).length = N) := Lib.hid (by simp [hnh, hN])
          have hhd : Hid ((hs ++ [hdr0]).getD nh hdr0 = hdr0) := Lib.hid (by rw [← hnh]; simp)
          have hS6 : Hid (Ow2 w φ1 23 70 a2 c2 (hs ++ [hdr0]) none 0 ([] : List Cdg) w4) := Lib.hid ⟨hi4, ho4, Own.nil _ _ _ _, fun _ _ _ h => by cases h⟩
          have hBj : Hid (Blk w4 bx #[.int .i64 x1, .int .i64 x2, .int .i64 x3] 70) := Lib.hid ((hg4.block bx (by have := hBq.out.lt; simp; omega) (fun e => by
            cases ao with
            | none => cases e
            | some z => have := hao.out z rfl; simp at e; omega)).trans (hBq.out.alloc _))
          have hnh2 := Lib.hid hnh
          rw [hnh] at hhl3
          rw [show hs.length + 1 = N by rw [hnh, hN]]
          clear hi4 ho4 hg4 hf4 hinq honq hBq hnh
          have HN := Lib.hid hN
          obtain ⟨g, hga, hgB, hgl, hgf, hgc, hgz, _⟩ := hS6.out.o1.hdrD hl6 (k := nh) (by omega)
          subst hga
          have hb0 : w4.cell? ⟨bx, 0, none⟩ = some (.int .i64 x1) := hBj.out.cell 0
          have hb1 : w4.cell? ⟨bx, 1, none⟩ = some (.int .i64 x2) := hBj.out.cell 1
          have hb2 : w4.cell? ⟨bx, 2, none⟩ = some (.int .i64 x3) := hBj.out.cell 2
          have hblt := hBj.out.lt
          have hw1 : IntKind.i64.wrap ((N : Int) - 1) = nh := by rw [IntWalk.i64_in _ (by omega)]; omega
          have hi1 : (nh : Int) < (N : Int) := by omega
          have hi2 : (0 : Int) ≤ (nh : Int) := by omega
          rw [hhd.out] at hgc
          dsimp only at hgc
          clear hN
          have hlg : Hid ((∀ y, (none : Option Addr) = some y → y.block ≠ g ∧ y.block ≠ bx)) := Lib.hid (fun y hy => ⟨fun e => hS6.out.ne _ y rfl hy e.symm, (by cases hy)⟩)
          have hfz : ∀ o, (w4.alloc o).frozen? ⟨g, nh, none⟩ = false := fun o => (((Below.refl _ _).alloc (Nat.le_refl _) o).frozen (p := ⟨g, nh, none⟩) hgl).trans hgz
          have hfd : ∀ o, (w4.alloc o).drew.frozen? ⟨g, nh, none⟩ = false := hfz
          go_region_law ((refine step_appF (α := Cdg) (by rfl) _ _ _ (by rfl) slC (hS6.out.alloc _).inv.drew (none : Option Addr) 0 _ (by rfl) (hS6.out.alloc _).o2.drew ⟨w4.heap.size, 0, none⟩ 1 [(x1, x2, x3)] [.int .i64 x1, .int .i64 x2, .int .i64 x3] 1 (by rfl) (by rfl) (RepL.single ⟨[.int .i64 x1], [.int .i64 x2, .int .i64 x3], rfl, rfl, [.int .i64 x2], [.int .i64 x3], rfl, rfl, rfl⟩) (World.news_of_block (cs := #[.int .i64 x1, .int .i64 x2, .int .i64 x3]) (t := 70) (fr := (0, 0)) (heap_alloc_new w4 _)) (by show (([] : List Cdg).length + 1) * 24 ≤ 140737488355328; (try simp only [List.length_nil]); omega) ?_; intro a3 c3 w5 hi5 ho5 hg5 hf5; have hS7 := (((hS6.out.alloc (.cells #[.int .i64 x1, .int .i64 x2, .int .i64 x3] 70)).drewN 1).swap.step1 hi5 ho5 hg5 hf5).swap; have HS7 := Lib.hid hS7; have kg := far (o := nh) (hg5.block g (by simp; omega) (rowne (fun y hy => (hlg.out y hy).1))); have kb := fun o => far (o := o) (hg5.block bx (by simp; omega) (rowne (fun y hy => (hlg.out y hy).2))); have k0 : w5.cell? ⟨g, nh, none⟩ = some (.slice (none : Option Addr) ([] : List Cdg).length 0) := kg.1.trans (((Below.refl _ _).alloc (Nat.le_refl _) _).cell (p := ⟨g, nh, none⟩) hgl |>.trans hgc); have k1 : w5.frozen? ⟨g, nh, none⟩ = false := kg.2.trans (((Below.refl _ _).alloc (Nat.le_refl _) _).frozen (p := ⟨g, nh, none⟩) hgl |>.trans hgz); have k2 : w5.cell? ⟨bx, 0, none⟩ = some (.int .i64 x1) := (kb 0).1.trans (((Below.refl _ _).alloc (Nat.le_refl _) _).cell (p := ⟨bx, 0, none⟩) hblt |>.trans hb0); have k3 : w5.cell? ⟨bx, 1, none⟩ = some (.int .i64 x2) := (kb 1).1.trans (((Below.refl _ _).alloc (Nat.le_refl _) _).cell (p := ⟨bx, 1, none⟩) hblt |>.trans hb1); have k4 : w5.cell? ⟨bx, 2, none⟩ = some (.int .i64 x3) := (kb 2).1.trans (((Below.refl _ _).alloc (Nat.le_refl _) _).cell (p := ⟨bx, 2, none⟩) hblt |>.trans hb2); clear hS7 hi5 ho5 hg5 hf5 kg kb))
          clear hw1 hfz hfd
          all_goals
            obtain ⟨g', hga', hgB', hgl', hgf', hgc', hgz', hset⟩ := HS7.out.o1.hdrD hl6 (k := nh) (by have := HN.out; omega)
            cases hga'
            have hfin := Lib.hid (hset ⟨a3, ([] : List Cdg).length + 1, c3⟩ w φ1 HS7.out.inv)
            clear hset
            have hS8 := Lib.hid (HS7.out.put1 hfin.out.1 hfin.out.2)
            go_wp2
            go_roundw
            case rel =>
              refine ⟨k + 1, N, _, c2, by omega, by go_num, rfl, Lib.hid (by rw [hg1.out, List.length_append, hng.out, ← hhl2.out, hnh2.out, HN.out]; rfl), Lib.hid ⟨φ1, hs, grpK cs k, _, a3, c3, [(x1, x2, x3)], HLE.out, HNW.out, hS8.out, HHD.out, .inr ⟨hg1.out, ?_⟩⟩⟩
              rw [← hnh2.out]; simp
            case measure => (simp [intOf] <;> omega)
        · have h0i : ((k : Int) == 0) = false := by simp [h0]
          have hne : (x1 != y1) = true := by have := hnew.resolve_left h0; simpa using this
          have hpp := HP.out (by omega)
          have hpp' : (wr.alloc (.cells #[.int .i64 x1, .int .i64 x2, .int .i64 x3] 70)).cell? ⟨b, off + (k - 1) * 3, none⟩ = some (.int .i64 y1) := (((Below.refl wr.heap.size wr).alloc (Nat.le_refl _) _).cell (p := ⟨b, off + (k - 1) * 3, none⟩) hb).trans hpp
          have hb0' : (wr.alloc (.cells #[.int .i64 x1, .int .i64 x2, .int .i64 x3] 70)).cell? ⟨wr.heap.size, 0, none⟩ = some (.int .i64 x1) := box_at 0
          have hix : 0 ≤ (k : Int) - 1 := by omega
          have hix2 : (k : Int) - 1 < nc := by omega
          have hw0 : IntKind.i64.wrap ((k : Int) - 1) = k - 1 := IntWalk.i64_in _ (by omega)
          have hto : ((k : Int) - 1).toNat = k - 1 := by omega
          clear hnew
          go_wp2
          go_quiet (fail)
          have hinq := HI1.out.drewN nq
          have honq := HO1.out.drewN nq
          have hBq : Hid (Blk ((wr.alloc (.cells #[.int .i64 x1, .int .i64 x2, .int .i64 x3] 70)).drewN nq) wr.heap.size #[.int .i64 x1, .int .i64 x2, .int .i64 x3] 70) := Lib.hid hB0.out
          clear HI1 HO1 d1 d2 d3 hb hpp hpp' hb0' hw0 hto
          generalize (wr.alloc (.cells #[.int .i64 x1, .int .i64 x2, .int .i64 x3] 70)).drewN nq = wj at *
          generalize wr.heap.size = bx at *
          rw [← hhl2.out]
          have hhl3 : hs.length ≤ 20000 := by rw [hhl2.out]; omega
          go_wp2_with (at_builtin; (refine wpList_app1F (α := Hdr) rfl _ _ 67 rfl slCC hinq ao co _ honq _ _ hdr0 rfl rfl 1 rfl (by omega) ?_); intro a2 c2 w4 hi4 ho4 hg4 hf4)
          obtain ⟨nh, hnh⟩ : ∃ nh, hs.length = nh := ⟨_, rfl⟩
          obtain ⟨N, hN⟩ : ∃ N, N = nh + 1 := ⟨_, rfl⟩
          have hl6 : Hid ((hs ++ [hdr0]).length = N) := Lib.hid (by simp [hnh, hN])
          have hhd : Hid ((hs ++ [hdr0]).getD nh hdr0 = hdr0) := Lib.hid (by rw [← hnh]; simp)
          have hS6 : Hid (Ow2 w φ1 23 70 a2 c2 (hs ++ [hdr0]) none 0 ([] : List Cdg) w4) := Lib.hid ⟨hi4, ho4, Own.nil _ _ _ _, fun _ _ _ h => by cases h⟩
          have hBj : Hid (Blk w4 bx #[.int .i64 x1, .int .i64 x2, .int .i64 x3] 70) := Lib.hid ((hg4.block bx (by have := hBq.out.lt; simp; omega) (fun e => by
            cases ao with
            | none => cases e
            | some z => have := hao.out z rfl; simp at e; omega)).trans (hBq.out.alloc _))
          have hnh2 := Lib.hid hnh
          rw [hnh] at hhl3
          rw [show hs.length + 1 = N by rw [hnh, hN]]
          clear hi4 ho4 hg4 hf4 hinq honq hBq hnh
          have HN := Lib.hid hN
          obtain ⟨g, hga, hgB, hgl, hgf, hgc, hgz, _⟩ := hS6.out.o1.hdrD hl6 (k := nh) (by omega)
          subst hga
          have hb0 : w4.cell? ⟨bx, 0, none⟩ = some (.int .i64 x1) := hBj.out.cell 0
          have hb1 : w4.cell? ⟨bx, 1, none⟩ = some (.int .i64 x2) := hBj.out.cell 1
          have hb2 : w4.cell? ⟨bx, 2, none⟩ = some (.int .i64 x3) := hBj.out.cell 2
          have hblt := hBj.out.lt
          have hw1 : IntKind.i64.wrap ((N : Int) - 1) = nh := by rw [IntWalk.i64_in _ (by omega)]; omega
          have hi1 : (nh : Int) < (N : Int) := by omega
          have hi2 : (0 : Int) ≤ (nh : Int) := by omega
          rw [hhd.out] at hgc
          dsimp only at hgc
          clear hN
          have hlg : Hid ((∀ y, (none : Option Addr) = some y → y.block ≠ g ∧ y.block ≠ bx)) := Lib.hid (fun y hy => ⟨fun e => hS6.out.ne _ y rfl hy e.symm, (by cases hy)⟩)
          have hfz : ∀ o, (w4.alloc o).frozen? ⟨g, nh, none⟩ = false := fun o => (((Below.refl _ _).alloc (Nat.le_refl _) o).frozen (p := ⟨g, nh, none⟩) hgl).trans hgz
          have hfd : ∀ o, (w4.alloc o).drew.frozen? ⟨g, nh, none⟩ = false := hfz
          go_region_law ((refine step_appF (α := Cdg) (by rfl) _ _ _ (by rfl) slC (hS6.out.alloc _).inv.drew (none : Option Addr) 0 _ (by rfl) (hS6.out.alloc _).o2.drew ⟨w4.heap.size, 0, none⟩ 1 [(x1, x2, x3)] [.int .i64 x1, .int .i64 x2, .int .i64 x3] 1 (by rfl) (by rfl) (RepL.single ⟨[.int .i64 x1], [.int .i64 x2, .int .i64 x3], rfl, rfl, [.int .i64 x2], [.int .i64 x3], rfl, rfl, rfl⟩) (World.news_of_block (cs := #[.int .i64 x1, .int .i64 x2, .int .i64 x3]) (t := 70) (fr := (0, 0)) (heap_alloc_new w4 _)) (by show (([] : List Cdg).length + 1) * 24 ≤ 140737488355328; (try simp only [List.length_nil]); omega) ?_; intro a3 c3 w5 hi5 ho5 hg5 hf5; have hS7 := (((hS6.out.alloc (.cells #[.int .i64 x1, .int .i64 x2, .int .i64 x3] 70)).drewN 1).swap.step1 hi5 ho5 hg5 hf5).swap; have HS7 := Lib.hid hS7; have kg := far (o := nh) (hg5.block g (by simp; omega) (rowne (fun y hy => (hlg.out y hy).1))); have kb := fun o => far (o := o) (hg5.block bx (by simp; omega) (rowne (fun y hy => (hlg.out y hy).2))); have k0 : w5.cell? ⟨g, nh, none⟩ = some (.slice (none : Option Addr) ([] : List Cdg).length 0) := kg.1.trans (((Below.refl _ _).alloc (Nat.le_refl _) _).cell (p := ⟨g, nh, none⟩) hgl |>.trans hgc); have k1 : w5.frozen? ⟨g, nh, none⟩ = false := kg.2.trans (((Below.refl _ _).alloc (Nat.le_refl _) _).frozen (p := ⟨g, nh, none⟩) hgl |>.trans hgz); have k2 : w5.cell? ⟨bx, 0, none⟩ = some (.int .i64 x1) := (kb 0).1.trans (((Below.refl _ _).alloc (Nat.le_refl _) _).cell (p := ⟨bx, 0, none⟩) hblt |>.trans hb0); have k3 : w5.cell? ⟨bx, 1, none⟩ = some (.int .i64 x2) := (kb 1).1.trans (((Below.refl _ _).alloc (Nat.le_refl _) _).cell (p := ⟨bx, 1, none⟩) hblt |>.trans hb1); have k4 : w5.cell? ⟨bx, 2, none⟩ = some (.int .i64 x3) := (kb 2).1.trans (((Below.refl _ _).alloc (Nat.le_refl _) _).cell (p := ⟨bx, 2, none⟩) hblt |>.trans hb2); clear hS7 hi5 ho5 hg5 hf5 kg kb))
          clear hw1 hfz hfd
          all_goals
            obtain ⟨g', hga', hgB', hgl', hgf', hgc', hgz', hset⟩ := HS7.out.o1.hdrD hl6 (k := nh) (by have := HN.out; omega)
            cases hga'
            have hfin := Lib.hid (hset ⟨a3, ([] : List Cdg).length + 1, c3⟩ w φ1 HS7.out.inv)
            clear hset
            have hS8 := Lib.hid (HS7.out.put1 hfin.out.1 hfin.out.2)
            go_wp2
            go_roundw
            case rel =>
              refine ⟨k + 1, N, _, c2, by omega, by go_num, rfl, Lib.hid (by rw [hg1.out, List.length_append, hng.out, ← hhl2.out, hnh2.out, HN.out]; rfl), Lib.hid ⟨φ1, hs, grpK cs k, _, a3, c3, [(x1, x2, x3)], HLE.out, HNW.out, hS8.out, HHD.out, .inr ⟨hg1.out, ?_⟩⟩⟩
              rw [← hnh2.out]; simp
            case measure => (simp [intOf] <;> omega)
      · have hg1 : Hid (grpK cs (k + 1) = (grpK cs k).dropLast ++ [(grpK cs k).getLastD [] ++ [(x1, x2, x3)]]) := Lib.hid (by rw [hgk.out, if_neg hnew])
        have hk0 : 0 < k := by omega
        have h0i : ((k : Int) == 0) = false := by simp; omega
        have hne : (x1 != y1) = false := by
          have : x1 = y1 := Classical.not_not.1 (fun h => hnew (.inr h))
          simp [this]
        have hpp := HP.out hk0
        have hpp' : (wr.alloc (.cells #[.int .i64 x1, .int .i64 x2, .int .i64 x3] 70)).cell? ⟨b, off + (k - 1) * 3, none⟩ = some (.int .i64 y1) := (((Below.refl wr.heap.size wr).alloc (Nat.le_refl _) _).cell (p := ⟨b, off + (k - 1) * 3, none⟩) hb).trans hpp
        have hb0' : (wr.alloc (.cells #[.int .i64 x1, .int .i64 x2, .int .i64 x3] 70)).cell? ⟨wr.heap.size, 0, none⟩ = some (.int .i64 x1) := box_at 0
        have hix : 0 ≤ (k : Int) - 1 := by omega
        have hix2 : (k : Int) - 1 < nc := by omega
        have hw0 : IntKind.i64.wrap ((k : Int) - 1) = k - 1 := IntWalk.i64_in _ (by omega)
        have hto : ((k : Int) - 1).toNat = k - 1 := by omega
        clear hnew
        go_wp2
        go_quiet (fail)
        go_wp2
        clear hw0 hto hpp hpp' hb0'
        have hSx := hSt.out
        obtain ⟨φ1, hi, ini, hs, al, cl, la, hle1, hnw1, hS, hhd1, ⟨hgz, _⟩ | ⟨hgs, hhs⟩⟩ := hSx
        · exact absurd hgz (hgo.out.2.2 hk0)
        have hal : Hid (∀ y, al = some y → y.block < wr.heap.size) := Lib.hid (fun y hy => (hS.o2.lt y hy).2)
        have hlast : Hid ((grpK cs k).getLastD [] = la ∧ (grpK cs k).dropLast = ini) := Lib.hid (by rw [hgs]; simp)
        have hla : la.length ≤ 20000 := by have := (hgo.out.1 la (by rw [hgs]; simp)).2.1; omega
        obtain ⟨nh, rfl⟩ : ∃ nh, ng = nh + 1 := ⟨ng - 1, by have := hng.out; rw [hgs] at this; simp at this; omega⟩
        have hnhi : hi.length = nh := by have := hng.out; rw [hgs] at this; simp at this; rw [hhd1.len]; omega
        obtain ⟨N, hN⟩ : ∃ N, nh + 1 = N := ⟨_, rfl⟩
        rw [hN]
        have hl6 : Hid (hs.length = N) := Lib.hid (by rw [hhs]; simp [hnhi, hN])
        have HN := Lib.hid hN
        have hhd : Hid (hs.getD nh hdr0 = ⟨al, la.length, cl⟩) := Lib.hid (by rw [hhs, ← hnhi]; simp)
        have hS6 : Hid (Ow2 w φ1 23 70 ao co hs al cl la ((wr.alloc (.cells #[.int .i64 x1, .int .i64 x2, .int .i64 x3] 70)).drewN nq)) := Lib.hid ((hS.alloc _).drewN nq)
        have hBj : Hid (Blk ((wr.alloc (.cells #[.int .i64 x1, .int .i64 x2, .int .i64 x3] 70)).drewN nq) wr.heap.size #[.int .i64 x1, .int .i64 x2, .int .i64 x3] 70) := Lib.hid hB0.out
        have HHS := Lib.hid (And.intro hhs (And.intro hgs hnhi))
        have HLE := Lib.hid hle1
        have HNW := Lib.hid hnw1
        have HHD := Lib.hid hhd1
        clear hS hhs hgs hnhi hle1 hnw1 hhd1 hSt d1 d2 d3 hb
        generalize (wr.alloc (.cells #[.int .i64 x1, .int .i64 x2, .int .i64 x3] 70)).drewN nq = wj at *
        generalize wr.heap.size = bx at *
        obtain ⟨g, hga, hgB, hgl, hgf, hgc, hgz, _⟩ := hS6.out.o1.hdrD hl6 (k := nh) (by omega)
        subst hga
        have hb0 : wj.cell? ⟨bx, 0, none⟩ = some (.int .i64 x1) := hBj.out.cell 0
        have hb1 : wj.cell? ⟨bx, 1, none⟩ = some (.int .i64 x2) := hBj.out.cell 1
        have hb2 : wj.cell? ⟨bx, 2, none⟩ = some (.int .i64 x3) := hBj.out.cell 2
        have hblt := hBj.out.lt
        have hw1 : IntKind.i64.wrap ((N : Int) - 1) = nh := by rw [IntWalk.i64_in _ (by omega)]; omega
        have hi1 : (nh : Int) < (N : Int) := by omega
        have hi2 : (0 : Int) ≤ (nh : Int) := by omega
        rw [hhd.out] at hgc
        dsimp only at hgc
        clear hN
        have hlg : Hid ((∀ y, al = some y → y.block ≠ g ∧ y.block ≠ bx)) := Lib.hid (fun y hy => ⟨fun e => hS6.out.ne _ y rfl hy e.symm, by have := hal.out y hy; omega⟩)
        have hfz : ∀ o, (wj.alloc o).frozen? ⟨g, nh, none⟩ = false := fun o => (((Below.refl _ _).alloc (Nat.le_refl _) o).frozen (p := ⟨g, nh, none⟩) hgl).trans hgz
        have hfd : ∀ o, (wj.alloc o).drew.frozen? ⟨g, nh, none⟩ = false := hfz
        go_region_law ((refine step_appF (α := Cdg) (by rfl) _ _ _ (by rfl) slC (hS6.out.alloc _).inv.drew al cl _ (by rfl) (hS6.out.alloc _).o2.drew ⟨wj.heap.size, 0, none⟩ 1 [(x1, x2, x3)] [.int .i64 x1, .int .i64 x2, .int .i64 x3] 1 (by rfl) (by rfl) (RepL.single ⟨[.int .i64 x1], [.int .i64 x2, .int .i64 x3], rfl, rfl, [.int .i64 x2], [.int .i64 x3], rfl, rfl, rfl⟩) (World.news_of_block (cs := #[.int .i64 x1, .int .i64 x2, .int .i64 x3]) (t := 70) (fr := (0, 0)) (heap_alloc_new wj _)) (by show (la.length + 1) * 24 ≤ 140737488355328; (try simp only [List.length_nil]); omega) ?_; intro a3 c3 w5 hi5 ho5 hg5 hf5; have hS7 := (((hS6.out.alloc (.cells #[.int .i64 x1, .int .i64 x2, .int .i64 x3] 70)).drewN 1).swap.step1 hi5 ho5 hg5 hf5).swap; have HS7 := Lib.hid hS7; have kg := far (o := nh) (hg5.block g (by simp; omega) (rowne (fun y hy => (hlg.out y hy).1))); have kb := fun o => far (o := o) (hg5.block bx (by simp; omega) (rowne (fun y hy => (hlg.out y hy).2))); have k0 : w5.cell? ⟨g, nh, none⟩ = some (.slice al la.length cl) := kg.1.trans (((Below.refl _ _).alloc (Nat.le_refl _) _).cell (p := ⟨g, nh, none⟩) hgl |>.trans hgc); have k1 : w5.frozen? ⟨g, nh, none⟩ = false := kg.2.trans (((Below.refl _ _).alloc (Nat.le_refl _) _).frozen (p := ⟨g, nh, none⟩) hgl |>.trans hgz); have k2 : w5.cell? ⟨bx, 0, none⟩ = some (.int .i64 x1) := (kb 0).1.trans (((Below.refl _ _).alloc (Nat.le_refl _) _).cell (p := ⟨bx, 0, none⟩) hblt |>.trans hb0); have k3 : w5.cell? ⟨bx, 1, none⟩ = some (.int .i64 x2) := (kb 1).1.trans (((Below.refl _ _).alloc (Nat.le_refl _) _).cell (p := ⟨bx, 1, none⟩) hblt |>.trans hb1); have k4 : w5.cell? ⟨bx, 2, none⟩ = some (.int .i64 x3) := (kb 2).1.trans (((Below.refl _ _).alloc (Nat.le_refl _) _).cell (p := ⟨bx, 2, none⟩) hblt |>.trans hb2); clear hS7 hi5 ho5 hg5 hf5 kg kb))
        clear hw1 hfz hfd
        all_goals
          obtain ⟨g', hga', hgB', hgl', hgf', hgc', hgz', hset⟩ := HS7.out.o1.hdrD hl6 (k := nh) (by have := HN.out; omega)
          cases hga'
          have hfin := Lib.hid (hset ⟨a3, la.length + 1, c3⟩ w φ1 HS7.out.inv)
          clear hset
          have hS8 := Lib.hid (HS7.out.put1 hfin.out.1 hfin.out.2)
          go_wp2
          go_roundw
          case rel =>
            refine ⟨k + 1, N, _, co, by omega, by go_num, rfl, Lib.hid ?_, Lib.hid ⟨φ1, hi, ini, _, a3, c3, la ++ [(x1, x2, x3)], HLE.out, HNW.out, hS8.out, HHD.out, .inr ⟨?_, ?_⟩⟩⟩
            · rw [hg1.out, hlast.out.2]; have := HHS.out.2.2; rw [HHD.out.len] at this; have := HN.out; simp; omega
            · rw [hg1.out, hlast.out.1, hlast.out.2]
            · rw [HHS.out.1, ← HHS.out.2.2]; simp
          case measure => (simp [intOf] <;> omega)
    · obtain rfl : k = nc := by omega
      go_wp2
      go_ret
      obtain ⟨φ', h1, h2⟩ := hSt.out.fin
      rw [← hng.out]
      exact ⟨ao, co, φ', rfl, h1, h2⟩
end Go.Proofs.YtngogjookldidaaGreatDoor

namespace Go.Proofs.YtngogjookldidaaGreatDoor
open Go.RowKit
set_option linter.unusedVariables false
set_option linter.unusedSimpArgs false

/-- Block r goes over the map of block b, which answers as f; the keys of S have been met. -/
def RngF (w : World) (b r : Nat) (f : Int → Option Int) (S : List Int) : Prop := ∃ M, RngW vI w b r M S ∧ ∀ k, mget M k = f k
section
variable {w w' : World} {b r : Nat} {f : Int → Option Int} {S : List Int}
theorem RngF.lt (h : RngF w b r f S) : b < w.heap.size ∧ r < w.heap.size ∧ r ≠ b := by obtain ⟨M, h, _⟩ := h; exact h.lt
theorem RngF.kept (h : RngF w b r f S) (hb : w'.heap[b]? = w.heap[b]?) (hr : w'.heap[r]? = w.heap[r]?) : RngF w' b r f S := by obtain ⟨M, h, e⟩ := h; exact ⟨M, h.kept hb hr, e⟩
theorem RngF.callB (h : RngF w b r f S) (hb : Below w.heap.size w w') : RngF w' b r f S := by obtain ⟨M, h, e⟩ := h; exact ⟨M, h.callB hb, e⟩
theorem RngF.drewN (h : RngF w b r f S) (q : Nat) : RngF (w.drewN q) b r f S := h.callB (bdrewN (Below.refl _ _) q)
theorem RngF.set (h : RngF w b r f S) {g off : Nat} (hb : b ≠ g) (hr : r ≠ g) (u : Value) : RngF (w.setCell ⟨g, off, none⟩ u) b r f S := h.kept (Below.heap_setCell _ _ _ _ hb) (Below.heap_setCell _ _ _ _ hr)
theorem RngF.map (h : RngF w b r f S) : MapW w b f := by
  obtain ⟨M, ⟨es, clock, since, seen, c0, hb, hm, _⟩, e⟩ := h
  exact ⟨_, M, hb, hm, e⟩
variable {ops : Array Oper} {rest : List Oper} {o : Oper} {a : Act} {Q : Exit → Act → World → Prop}
theorem wpList_range_F (hg : o.guard = none) (m : Operand) (hop : o.op = Op.range 53 m) (hm : a.eval m = .map (some b)) (h : MapW w b f)
    (hK : ∀ w', RngF w' b w.heap.size f [] → Below w.heap.size w w' → w'.heap.size = w.heap.size + 1 → wpList Tryz.prog ops Q rest (a.put o.dst (.pointer (some ⟨w.heap.size, 0, none⟩))) w') : wpList Tryz.prog ops Q (o :: rest) a w := by
  refine wpList_plain hg fun K' hK' => ?_
  obtain ⟨ob, M, h1, h2, h3⟩ := h
  obtain ⟨o', hrun, hr⟩ := RngW.start (P := Tryz.prog) Tryz.underlying53 h1 h2
  unfold Oper.wp
  simp [execOp, hop, hm, hrun, Result.andThen]
  exact hK' _ _ (hK _ ⟨M, hr, h3⟩ ((Below.refl _ _).alloc (Nat.le_refl _) _) (by simp))
theorem wpList_next_F (hg : o.guard = none) (it : Operand) (hop : o.op = Op.next it false) (hit : a.eval it = .pointer (some ⟨r, 0, none⟩)) (h : RngF w b r f S)
    (hDone : (∀ k x, f k = some x → k ∈ S) → wpList Tryz.prog ops Q rest (a.put o.dst (.tuple #[.bool false])) w)
    (hMore : ∀ (k x : Int) (w' : World), f k = some x → k ∉ S → RngF w' b r f (k :: S) → w.grownBy w' (some r) → w'.heap.size = w.heap.size → w'.rangeLeft b r < w.rangeLeft b r → (Instr.entry (.pointer (some ⟨r, 0, none⟩))).run Tryz.prog w' = .ok (.tuple #[.int .i64 k, .int .i64 x]) w' →
      wpList Tryz.prog ops Q rest (a.put o.dst (.tuple #[.bool true, .int .i64 k, .int .i64 x])) w') : wpList Tryz.prog ops Q (o :: rest) a w := by
  refine wpList_plain hg fun K' hK' => ?_
  obtain ⟨M, h, e⟩ := h
  have hnd : (M.map (·.1)).Nodup := by obtain ⟨es, clock, since, seen, c0, hb, hm, _⟩ := h; exact hm.nodup
  unfold Oper.wp
  rcases h.next (P := Tryz.prog) o.type with ⟨h0, hrun⟩ | ⟨k, x, v, w', h1, h2, h3, hrun, h4, h5, h6, h7, h8⟩
  · simp [execOp, hop, hit, hrun, Result.andThen]
    exact hK' _ _ (hDone fun k x hk => h0 k x (mem_of_mget (by rw [e]; exact hk)))
  · cases h3
    simp [execOp, hop, hit, hrun, Result.andThen]
    exact hK' _ _ (hMore k x w' (by rw [← e]; exact mget_of_mem hnd h1) h2 ⟨M, h4, e⟩ h5 h6 h7 h8)
end
/-- Counts as what a map answers. -/
def cnF (n : Nat) : Option Int := if n = 0 then none else some (n : Int)
theorem cnF_getD (n : Nat) : (cnF n).getD 0 = n := by unfold cnF; split <;> simp_all
theorem cnF_some {n : Nat} {x : Int} (h : cnF n = some x) : 0 < n ∧ x = n := by unfold cnF at h; split at h; cases h; cases h; exact ⟨by omega, rfl⟩
theorem cnF_succ (n : Nat) : cnF (n + 1) = some ((n : Int) + 1) := by unfold cnF; rw [if_neg (by omega)]; simp
def ownF (g : List Cdg) : Int → Option Int := fun c => cnF (cntO g c)
def abF (l : List Nod) (g : List Cdg) (x : Int) (j : Nat) : Int → Option Int := fun c => cnF (cntA l g c + if c ∈ (upL l x).take j then 1 else 0)
theorem ownF_step (g : List Cdg) (x : Cdg) : updF (ownF g) x.2.2 ((cntO g x.2.2 : Int) + 1) = ownF (g ++ [x]) := by
  funext c
  unfold updF ownF
  rw [cntO_snoc]
  by_cases h : c = x.2.2
  · subst h; rw [if_pos rfl, if_pos rfl, cnF_succ]
  · rw [if_neg h, if_neg (fun e => h e.symm)]; rfl
theorem abF_zero (l : List Nod) (g : List Cdg) (x : Int) : abF l g x 0 = fun c => cnF (cntA l g c) := by funext c; simp [abF]
theorem abF_full (l : List Nod) (g : List Cdg) (x : Cdg) : abF l g x.2.2 (upL l x.2.2).length = fun c => cnF (cntA l (g ++ [x]) c) := by
  funext c; unfold abF; rw [cntA_snoc, List.take_length]
theorem abF_step (l : List Nod) (g : List Cdg) (x : Int) {j : Nat} {y : Int} (hj : j < (upL l x).length) (hy : (upL l x).getD j 0 = y) (hnd : (upL l x).Nodup) : (abF l g x j y = cnF (cntA l g y)) ∧ updF (abF l g x j) y ((cntA l g y : Int) + 1) = abF l g x (j + 1) := by
  have hyj : (upL l x)[j] = y := by rw [← hy, getD_elem0 _ _ _ hj]
  have hnot : y ∉ (upL l x).take j := by
    intro hm
    obtain ⟨i, hi, he⟩ := List.getElem_of_mem hm
    rw [List.getElem_take] at he
    have hij : i < j := by rw [List.length_take] at hi; omega
    have hpw := List.pairwise_iff_getElem.1 hnd
    exact hpw i j (by omega) hj hij (he.trans hyj.symm)
  refine ⟨by unfold abF; rw [if_neg hnot]; rfl, ?_⟩
  funext c
  unfold updF abF
  rw [take_snoc _ _ hj, hyj]
  by_cases h : c = y
  · subst h
    rw [if_pos rfl, if_pos (by simp), cnF_succ]
  · rw [if_neg h]
    congr 2
    simp [h]

/-- Two maps and a block of the call's own. -/
structure FnSt (w0 : World) (r5 r6 b4 : Nat) (f5 f6 : Int → Option Int) (cs4 : Array Value) (T : TypeId) (wr : World) : Prop where
  bel : Below w0.heap.size w0 wr
  m5 : MapW wr r5 f5
  m6 : MapW wr r6 f6
  b : Blk wr b4 cs4 T
  lo : w0.heap.size ≤ r5 ∧ w0.heap.size ≤ r6 ∧ w0.heap.size ≤ b4
  ne : r5 ≠ r6 ∧ b4 ≠ r5 ∧ b4 ≠ r6
section
variable {w0 wr w' : World} {r5 r6 b4 : Nat} {f5 f6 : Int → Option Int} {cs4 : Array Value} {T : TypeId}
theorem FnSt.callB (h : FnSt w0 r5 r6 b4 f5 f6 cs4 T wr) (hb : Below wr.heap.size wr w') : FnSt w0 r5 r6 b4 f5 f6 cs4 T w' := ⟨h.bel.trans (hb.mono h.bel.size), h.m5.callB hb, h.m6.callB hb, h.b.callB hb, h.lo, h.ne⟩
theorem FnSt.alloc (h : FnSt w0 r5 r6 b4 f5 f6 cs4 T wr) (o : Obj) : FnSt w0 r5 r6 b4 f5 f6 cs4 T (wr.alloc o) := h.callB ((Below.refl _ _).alloc (Nat.le_refl _) o)
theorem FnSt.drewN (h : FnSt w0 r5 r6 b4 f5 f6 cs4 T wr) (q : Nat) : FnSt w0 r5 r6 b4 f5 f6 cs4 T (wr.drewN q) := h.callB (bdrewN (Below.refl _ _) q)
theorem FnSt.put5 (h : FnSt w0 r5 r6 b4 f5 f6 cs4 T wr) (k x : Int) : ∃ o, (∀ q, (Instr.mapUpdate 53 (.map (some r5)) (.int .i64 k) (.int .i64 x)).run Tryz.prog (wr.drewN q) = .ok () (setMap (wr.drewN q) r5 o)) ∧ ∀ q, FnSt w0 r5 r6 b4 (updF f5 k x) f6 cs4 T (setMap (wr.drewN q) r5 o) := by
  obtain ⟨o, h1, h2⟩ := h.m5.put k x
  have hd := fun q => h.drewN q
  exact ⟨o, h1, fun q => ⟨Below_grown (bdrewN h.bel q) (setMap_grown _ r5 o) h.lo.1, h2 _ (setMap_same o h.m5.lt), ((hd q).m6).grown (setMap_grown _ r5 o) h.ne.1.symm, Blk.grown (hd q).b (setMap_grown _ r5 o) h.ne.2.1, h.lo, h.ne⟩⟩
theorem FnSt.put6 (h : FnSt w0 r5 r6 b4 f5 f6 cs4 T wr) (k x : Int) : ∃ o, (∀ q, (Instr.mapUpdate 53 (.map (some r6)) (.int .i64 k) (.int .i64 x)).run Tryz.prog (wr.drewN q) = .ok () (setMap (wr.drewN q) r6 o)) ∧ ∀ q, FnSt w0 r5 r6 b4 f5 (updF f6 k x) cs4 T (setMap (wr.drewN q) r6 o) := by
  obtain ⟨o, h1, h2⟩ := h.m6.put k x
  have hd := fun q => h.drewN q
  exact ⟨o, h1, fun q => ⟨Below_grown (bdrewN h.bel q) (setMap_grown _ r6 o) h.lo.2.1, ((hd q).m5).grown (setMap_grown _ r6 o) h.ne.1, h2 _ (setMap_same o h.m6.lt), Blk.grown (hd q).b (setMap_grown _ r6 o) h.ne.2.2, h.lo, h.ne⟩⟩
end
end Go.Proofs.YtngogjookldidaaGreatDoor
