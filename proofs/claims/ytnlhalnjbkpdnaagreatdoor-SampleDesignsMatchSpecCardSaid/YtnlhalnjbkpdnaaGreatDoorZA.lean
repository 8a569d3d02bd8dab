/- Rising lists: the members of a list, once each, in order. Frames of units: the plain law (faults, strata, clusters) and reading units. A map's keys as the library's contracts on maps ask for them; rows that the library sorts. Rows of one cell an element that the library sorts and compacts. Conditions: none beyond what the claim form gives. -/
import Derived.Test.YtnlhalnjbkpdnaaGreatDoorLB
import Derived.Lib.SlicesCompact
import Derived.Maps.Own
import Derived.Sort.KeysCollected
import Derived.Lib.SlKeysI
import Derived.Sort.Row
namespace Go.Proofs.YtnlhalnjbkpdnaaGreatDoor
set_option linter.unusedVariables false
set_option linter.unusedSimpArgs false
section
variable {α : Type} [DecidableEq α] (lt : α → α → Bool)
def insR (x : α) : List α → List α
  | [] => [x]
  | y :: l => if x = y then y :: l else if lt x y = true then x :: y :: l else y :: insR x l
def risL (l : List α) : List α := l.foldr (insR lt) []
variable {lt}
theorem mem_insR {x z : α} : ∀ {l : List α}, z ∈ insR lt x l ↔ z = x ∨ z ∈ l
  | [] => by simp [insR]
  | y :: l => by
    unfold insR
    split
    · next h => subst h; simp
    · split
      · simp
      · rw [List.mem_cons, mem_insR, List.mem_cons]
        exact ⟨fun h => by rcases h with h | h | h <;> simp [h], fun h => by rcases h with h | h | h <;> simp [h]⟩
theorem mem_risL {z : α} : ∀ {l : List α}, z ∈ risL lt l ↔ z ∈ l
  | [] => by simp [risL]
  | y :: l => by
    show z ∈ insR lt y (risL lt l) ↔ _
    rw [mem_insR, mem_risL, List.mem_cons]
theorem pw_insR (ht : ∀ x y z, lt x y = true → lt y z = true → lt x z = true) (h3 : ∀ x y, x ≠ y → lt x y = false → lt y x = true) {x : α} : ∀ {l : List α}, l.Pairwise (fun a b => lt a b = true) → (insR lt x l).Pairwise (fun a b => lt a b = true)
  | [], _ => by simp [insR]
  | y :: l, h => by
    rw [List.pairwise_cons] at h
    unfold insR
    split
    · exact List.pairwise_cons.2 h
    · next hne =>
      split
      · next hlt => exact List.pairwise_cons.2 ⟨fun z hz => by rcases List.mem_cons.1 hz with rfl | hz; exact hlt; exact ht _ _ _ hlt (h.1 z hz), List.pairwise_cons.2 h⟩
      · next hlt =>
        refine List.pairwise_cons.2 ⟨fun z hz => ?_, pw_insR ht h3 h.2⟩
        rcases mem_insR.1 hz with rfl | hz
        · exact h3 _ _ hne (by simpa using hlt)
        · exact h.1 z hz
theorem pw_risL (ht : ∀ x y z, lt x y = true → lt y z = true → lt x z = true) (h3 : ∀ x y, x ≠ y → lt x y = false → lt y x = true) : ∀ {l : List α}, (risL lt l).Pairwise (fun a b => lt a b = true)
  | [] => List.Pairwise.nil
  | y :: l => pw_insR ht h3 (pw_risL ht h3)
end
/-- Two lists that rise and have the same members are one. -/
theorem risen_eq {α : Type} {r : α → α → Prop} (ha : ∀ x y, r x y → ¬ r y x) : ∀ {l l' : List α}, l.Pairwise r → l'.Pairwise r → (∀ x, x ∈ l ↔ x ∈ l') → l = l'
  | [], [], _, _, _ => rfl
  | [], y :: l', _, _, h => by have := (h y).2 (by simp); simp at this
  | x :: l, [], _, _, h => by have := (h x).1 (by simp); simp at this
  | x :: l, y :: l', h1, h2, h => by
    rw [List.pairwise_cons] at h1 h2
    have hir : ∀ z, ¬ r z z := fun z hz => ha z z hz hz
    have hxy : x = y := by
      rcases List.mem_cons.1 ((h x).1 (by simp)) with e | e
      · exact e
      · rcases List.mem_cons.1 ((h y).2 (by simp)) with e' | e'
        · exact e'.symm
        · exact absurd (h2.1 x e) (ha _ _ (h1.1 y e'))
    subst hxy
    congr 1
    refine risen_eq ha h1.2 h2.2 (fun z => ⟨fun hz => ?_, fun hz => ?_⟩)
    · rcases List.mem_cons.1 ((h z).1 (by simp [hz])) with e | e
      · subst e; exact absurd (h1.1 z hz) (hir z)
      · exact e
    · rcases List.mem_cons.1 ((h z).2 (by simp [hz])) with e | e
      · subst e; exact absurd (h2.1 z hz) (hir z)
      · exact e
/-- What is left of a sorted list without its repetitions. -/
theorem upTo_succ {α : Type} [Inhabited α] [DecidableEq α] (d : Array α) (m : Nat) : Lib.compactUpTo d (m + 1) = Lib.compactUpTo d m ++ if Lib.keeps d m = true then [d[m]!] else [] := by
  unfold Lib.compactUpTo
  rw [List.range_succ, List.filter_append, List.map_append]
  congr 1
  by_cases h : Lib.keeps d m = true <;> simp [h]
theorem compact_rise {α : Type} [Inhabited α] [DecidableEq α] {lt : α → α → Bool} (h3 : ∀ x y, x ≠ y → lt x y = false → lt y x = true) {zs : List α} (hs : zs.Pairwise (fun a b => lt b a = false)) : (Lib.compact zs).Pairwise (fun a b => lt a b = true) ∧ ∀ x, x ∈ Lib.compact zs ↔ x ∈ zs := by
  have hp : ∀ i j, i < j → j < zs.length → lt (zs.toArray[j]!) (zs.toArray[i]!) = false := by
    intro i j hij hj
    rw [List.pairwise_iff_getElem] at hs
    have := hs i j (by omega) hj hij
    rw [getElem!_pos zs.toArray i (by simp; omega), getElem!_pos zs.toArray j (by simpa using hj)]
    simpa using this
  have key : ∀ m, m ≤ zs.length → (Lib.compactUpTo zs.toArray m).Pairwise (fun a b => lt a b = true) ∧ ∀ x, x ∈ Lib.compactUpTo zs.toArray m ↔ ∃ i, i < m ∧ zs.toArray[i]! = x := by
    intro m
    induction m with
    | zero => intro _; exact ⟨by simp [Lib.compactUpTo], fun x => by simp [Lib.compactUpTo]⟩
    | succ m ih =>
      intro hm
      obtain ⟨i1, i2⟩ := ih (by omega)
      rw [upTo_succ]
      by_cases hk : Lib.keeps zs.toArray m = true
      · rw [if_pos hk]
        refine ⟨List.pairwise_append.2 ⟨i1, by simp, fun a ha b hb => ?_⟩, fun x => ?_⟩
        · obtain ⟨i, hi, rfl⟩ := (i2 a).1 ha
          simp only [List.mem_singleton] at hb
          subst hb
          have hne : zs.toArray[m]! ≠ zs.toArray[i]! := by
            intro e
            unfold Lib.keeps at hk
            rw [decide_eq_true_iff] at hk
            rcases hk with h0 | h0
            · omega
            · by_cases him : i = m - 1
              · exact h0 (by rw [e, him])
              · have h1 := hp i (m - 1) (by omega) (by omega)
                have h2 := hp (m - 1) m (by omega) (by omega)
                rw [e] at h2
                exact h0 (Classical.byContradiction (fun q => by
                  rw [e] at q
                  have := h3 _ _ q h2
                  rw [h1] at this; cases this))
          exact h3 _ _ hne (hp i m hi (by omega))
        · rw [List.mem_append, i2, List.mem_singleton]
          refine ⟨fun h => ?_, fun ⟨i, hi, e⟩ => ?_⟩
          · rcases h with ⟨i, hi, e⟩ | h
            · exact ⟨i, by omega, e⟩
            · exact ⟨m, by omega, h.symm⟩
          · by_cases him : i = m
            · subst him; exact .inr e.symm
            · exact .inl ⟨i, by omega, e⟩
      · rw [if_neg hk, List.append_nil]
        refine ⟨i1, fun x => ?_⟩
        rw [i2]
        refine ⟨fun ⟨i, hi, e⟩ => ⟨i, by omega, e⟩, fun ⟨i, hi, e⟩ => ?_⟩
        by_cases him : i = m
        · subst him
          unfold Lib.keeps at hk
          rw [decide_eq_true_iff] at hk
          have h0 : i ≠ 0 := fun q => hk (.inl q)
          have h1 : zs.toArray[i]! = zs.toArray[i - 1]! := Classical.byContradiction (fun q => hk (.inr q))
          exact ⟨i - 1, by omega, by rw [← h1, e]⟩
        · exact ⟨i, by omega, e⟩
  obtain ⟨k1, k2⟩ := key zs.length (Nat.le_refl _)
  refine ⟨k1, fun x => ?_⟩
  show x ∈ Lib.compactUpTo zs.toArray zs.length ↔ _
  rw [k2]
  constructor
  · rintro ⟨i, hi, rfl⟩
    rw [getElem!_pos zs.toArray i (by simpa using hi)]
    simp
  · intro hx
    obtain ⟨i, hi, e⟩ := List.getElem_of_mem hx
    exact ⟨i, hi, by rw [getElem!_pos zs.toArray i (by simpa using hi)]; simpa using e⟩
/-- Numbers. -/
def ltI (a b : Int) : Bool := decide (a < b)
theorem ltI_trans (x y z : Int) (h1 : ltI x y = true) (h2 : ltI y z = true) : ltI x z = true := by unfold ltI at *; simp at *; omega
theorem ltI_tri (x y : Int) (h : x ≠ y) (h1 : ltI x y = false) : ltI y x = true := by unfold ltI at *; simp at *; omega
def risI (l : List Int) : List Int := risL ltI l
theorem risI_pw (l : List Int) : (risI l).Pairwise (· < ·) := (pw_risL (lt := ltI) ltI_trans ltI_tri (l := l)).imp (fun {a b} h => by unfold ltI at h; simpa using h)
theorem mem_risI {l : List Int} {x : Int} : x ∈ risI l ↔ x ∈ l := mem_risL
theorem risI_eq {L l : List Int} (h : L.Pairwise (· < ·)) (hm : ∀ x, x ∈ L ↔ x ∈ l) : L = risI l := risen_eq (r := (· < ·)) (fun x y a b => by omega) h (risI_pw l) (fun x => by rw [hm, mem_risI])
/-- Texts, by their bytes. -/
def ltT (a b : List UInt8) : Bool := decide (a < b)
theorem ltT_trans (x y z : List UInt8) (h1 : ltT x y = true) (h2 : ltT y z = true) : ltT x z = true := by
  unfold ltT at *
  rw [decide_eq_true_iff] at *
  exact List.lt_trans h1 h2
theorem ltT_asymm (x y : List UInt8) (h1 : ltT x y = true) : ltT y x = false := by
  unfold ltT at *
  rw [decide_eq_true_iff] at h1
  rw [decide_eq_false_iff_not]
  exact List.lt_asymm h1
theorem ltT_tri (x y : List UInt8) (h : x ≠ y) (h1 : ltT x y = false) : ltT y x = true := by
  unfold ltT at *
  rw [decide_eq_false_iff_not] at h1
  rw [decide_eq_true_iff]
  have h2 : y ≤ x := h1
  exact Classical.byContradiction (fun q => h (List.le_antisymm (show x ≤ y from q) h2))
def risT (l : List (List UInt8)) : List (List UInt8) := risL ltT l
theorem risT_pw (l : List (List UInt8)) : (risT l).Pairwise (fun a b => ltT a b = true) := pw_risL ltT_trans ltT_tri
theorem mem_risT {l : List (List UInt8)} {x : List UInt8} : x ∈ risT l ↔ x ∈ l := mem_risL
theorem risT_eq {L l : List (List UInt8)} (h : L.Pairwise (fun a b => ltT a b = true)) (hm : ∀ x, x ∈ L ↔ x ∈ l) : L = risT l :=
  risen_eq (r := fun a b => ltT a b = true) (fun x y a b => by rw [ltT_asymm _ _ a] at b; cases b) h (risT_pw l) (fun x => by rw [hm, mem_risT])
end Go.Proofs.YtnlhalnjbkpdnaaGreatDoor

namespace Go.Proofs.YtnlhalnjbkpdnaaGreatDoor
open Go.RowKit
set_option linter.unusedVariables false
set_option linter.unusedSimpArgs false
abbrev Unt := Int × ByteArray × Int × Int
abbrev Clu := Int × Int × List Unt
abbrev Lyr := ByteArray × List Unt × Int × List Clu
def unt0 : Unt := (0, ByteArray.empty, 0, 0)
noncomputable def uBad (l : List Unt) (i : Nat) : Int :=
  if (l.getD i unt0).1 < 1 then 1
  else if 0 < i ∧ (l.getD i unt0).1 ≤ (l.getD (i - 1) unt0).1 then 7
  else if nameB (l.getD i unt0).2.1 = false then 5
  else if outB (l.getD i unt0).2.2.1 0 5000 = true ∨ outB (l.getD i unt0).2.2.2 1 1000000 = true then 1 else 0
def btT (s : ByteArray) : List UInt8 := s.data.toList
def ofT (b : List UInt8) : ByteArray := ⟨b.toArray⟩
theorem ofT_btT (s : ByteArray) : ofT (btT s) = s := rfl
theorem btT_ofT (b : List UInt8) : btT (ofT b) = b := rfl
theorem btT_inj {s t : ByteArray} (h : btT s = btT t) : s = t := by rw [← ofT_btT s, h, ofT_btT]
/-- The strata's names, in order; a stratum's units. -/
def nmsL (l : List Unt) : List ByteArray := (risT (l.map (fun u => btT u.2.1))).map ofT
def stU (l : List Unt) (s : ByteArray) : List Unt := l.filter (fun u => decide (btT u.2.1 = btT s))
def cnsL (l : List Unt) : List Int := risI (l.map (fun u => u.2.2.1))
def clU (l : List Unt) (c : Int) : List Unt := l.filter (fun u => decide (u.2.2.1 = c))
def szU (l : List Unt) : Int := (l.map (fun u => u.2.2.2)).sum
def cluF (l : List Unt) (c : Int) : Clu := (c, szU (clU l c), clU l c)
def lyrF (l : List Unt) (s : ByteArray) : Lyr := (s, stU l s, szU (stU l s), (cnsL (stU l s)).map (cluF (stU l s)))
noncomputable def frmU (l : List Unt) : Int := if 5000 < l.length then 2 else if scan (uBad l) l.length ≠ 0 then scan (uBad l) l.length else if 40 < (nmsL l).length then 2 else 0
noncomputable def lyrR (l : List Unt) : List Lyr × Int := if frmU l ≠ 0 then ([], frmU l) else ((nmsL l).map (lyrF l), 0)
theorem mem_nmsL {l : List Unt} {s : ByteArray} : s ∈ nmsL l ↔ ∃ u ∈ l, u.2.1 = s := by
  unfold nmsL
  rw [List.mem_map]
  constructor
  · rintro ⟨b, hb, rfl⟩
    obtain ⟨u, hu, e⟩ := List.mem_map.1 (mem_risT.1 hb)
    exact ⟨u, hu, by rw [← e, ofT_btT]⟩
  · rintro ⟨u, hu, rfl⟩
    exact ⟨btT u.2.1, mem_risT.2 (List.mem_map.2 ⟨u, hu, rfl⟩), ofT_btT _⟩
theorem mem_cnsL {l : List Unt} {c : Int} : c ∈ cnsL l ↔ ∃ u ∈ l, u.2.2.1 = c := by
  unfold cnsL; rw [mem_risI, List.mem_map]
theorem nmsL_eq {l : List Unt} {L : List (List UInt8)} (h : L.Pairwise (fun a b => ltT a b = true)) (hm : ∀ x, x ∈ L ↔ ∃ u ∈ l, btT u.2.1 = x) : L.map ofT = nmsL l := by
  unfold nmsL
  exact congrArg (List.map ofT) (risT_eq h (fun x => (hm x).trans List.mem_map.symm))
theorem stU_snoc (l : List Unt) (u : Unt) (s : ByteArray) : stU (l ++ [u]) s = if u.2.1 = s then stU l s ++ [u] else stU l s := by
  unfold stU
  rw [List.filter_append]
  by_cases h : u.2.1 = s
  · simp [h]
  · have h2 : btT u.2.1 ≠ btT s := fun e => h (btT_inj e)
    simp [h, h2]
theorem clU_snoc (l : List Unt) (u : Unt) (c : Int) : clU (l ++ [u]) c = if u.2.2.1 = c then clU l c ++ [u] else clU l c := by
  unfold clU
  rw [List.filter_append]
  by_cases h : u.2.2.1 = c <;> simp [h]
theorem szU_snoc (l : List Unt) (u : Unt) : szU (l ++ [u]) = szU l + u.2.2.2 := by
  unfold szU; rw [List.map_append, List.sum_append]; simp
theorem stU_len (l : List Unt) (s : ByteArray) : (stU l s).length ≤ l.length := List.length_filter_le _ _
theorem clU_len (l : List Unt) (c : Int) : (clU l c).length ≤ l.length := List.length_filter_le _ _
theorem stU_mem {l : List Unt} {s : ByteArray} {u : Unt} (h : u ∈ stU l s) : u ∈ l := (List.mem_filter.1 h).1
theorem clU_mem {l : List Unt} {c : Int} {u : Unt} (h : u ∈ clU l c) : u ∈ l := (List.mem_filter.1 h).1
/-- Sizes stay small. -/
theorem szU_bd {l : List Unt} (h : ∀ u ∈ l, 1 ≤ u.2.2.2 ∧ u.2.2.2 ≤ 1000000) : (l.length : Int) ≤ szU l ∧ szU l ≤ 1000000 * (l.length : Int) := by
  induction l with
  | nil => exact ⟨Int.le_refl _, Int.le_refl _⟩
  | cons u l ih =>
    have h1 := h u (by simp)
    have h2 := ih (fun v hv => h v (by simp [hv]))
    have e : szU (u :: l) = u.2.2.2 + szU l := by unfold szU; rw [List.map_cons, List.sum_cons]
    rw [e, List.length_cons]
    omega
theorem uBad_ok {l : List Unt} {i : Nat} (h : uBad l i = 0) : nameB (l.getD i unt0).2.1 = true ∧ (0 ≤ (l.getD i unt0).2.2.1 ∧ (l.getD i unt0).2.2.1 ≤ 5000) ∧ 1 ≤ (l.getD i unt0).2.2.2 ∧ (l.getD i unt0).2.2.2 ≤ 1000000 := by
  unfold uBad at h
  generalize l.getD i unt0 = u at *
  split at h
  · cases h
  split at h
  · cases h
  split at h
  · cases h
  split at h
  · cases h
  next h3 h4 =>
  refine ⟨by simpa using h3, ?_⟩
  unfold outB at h4
  simp at h4
  omega
theorem frm_ok {l : List Unt} (h : frmU l = 0) : l.length ≤ 5000 ∧ (nmsL l).length ≤ 40 ∧ ∀ u ∈ l, nameB u.2.1 = true ∧ (0 ≤ u.2.2.1 ∧ u.2.2.1 ≤ 5000) ∧ 1 ≤ u.2.2.2 ∧ u.2.2.2 ≤ 1000000 := by
  unfold frmU at h
  split at h
  · cases h
  split at h
  · next h2 => exact absurd h h2
  split at h
  · cases h
  next h1 h2 h3 =>
  refine ⟨by omega, by omega, fun u hu => ?_⟩
  have h2 : scan (uBad l) l.length = 0 := Classical.byContradiction h2
  obtain ⟨i, hi, rfl⟩ := List.getElem_of_mem hu
  have := uBad_ok (scan_all _ h2 i hi)
  rwa [getD_elem0 _ _ _ hi] at this
theorem SlV.untD {φ : Phi} {a : Option Addr} {cap : Nat} {xs : List Unt} (h : SlV φ a cap xs) {k n : Nat} (hn : Hid (xs.length = n)) (hk : k < n) :
    ∃ b off, a = some ⟨b, off, none⟩ ∧ ∀ k, k < n → ∀ w, Fz φ w → b < w.heap.size ∧ w.cell? ⟨b, off + k * 4, none⟩ = some (.int .i64 (xs.getD k unt0).1) ∧ w.cell? ⟨b, off + k * 4 + 1, none⟩ = some (.string (xs.getD k unt0).2.1) ∧ w.cell? ⟨b, off + k * 4 + 2, none⟩ = some (.int .i64 (xs.getD k unt0).2.2.1) ∧ w.cell? ⟨b, off + k * 4 + 3, none⟩ = some (.int .i64 (xs.getD k unt0).2.2.2) := by
  obtain ⟨b, off, ha, hc⟩ := h.cellsD unt0 hn hk
  refine ⟨b, off, ha, fun k hk w hw => ?_⟩
  obtain ⟨cs, ⟨c, d, rfl, h1, c2, d2, rfl, h2, c3, d3, rfl, h3, h4⟩, hj⟩ := hc k hk
  cases h1; cases h2; cases h3; cases h4
  have j0 := hj 0 (by simp)
  have j1 := hj 1 (by simp)
  have j2 := hj 2 (by simp)
  have j3 := hj 3 (by simp)
  simp [Rep.size] at j0 j1 j2 j3
  exact ⟨hw.lt j0, hw.cell j0, hw.cell j1, hw.cell j2, hw.cell j3⟩
theorem rep_unt (φ : Phi) (u : Unt) : Rep.rep φ u [.int .i64 u.1, .string u.2.1, .int .i64 u.2.2.1, .int .i64 u.2.2.2] :=
  ⟨[.int .i64 u.1], [.string u.2.1, .int .i64 u.2.2.1, .int .i64 u.2.2.2], rfl, rfl, [.string u.2.1], [.int .i64 u.2.2.1, .int .i64 u.2.2.2], rfl, rfl, [.int .i64 u.2.2.1], [.int .i64 u.2.2.2], rfl, rfl, rfl⟩
end Go.Proofs.YtnlhalnjbkpdnaaGreatDoor

namespace Go.Proofs.YtnlhalnjbkpdnaaGreatDoor
open Go.RowKit Go.Sort
set_option linter.unusedVariables false
set_option linter.unusedSimpArgs false
/-- A map, read through a reader that looks at no value. -/
theorem MapO.ownsL {κ α : Type} [KeyV κ] {vr : α → Value → Prop} {o : Obj} {M : List (κ × α)} {P : Program} {k : TypeId} {w : World} {b : Nat} (lit : κ → Lit) (hi : ∀ x y : κ, KeyV.v x = KeyV.v y → x = y) (h : MapO vr o M) (hb : w.heap[b]? = some o) (hl : M.length ≤ maxLen) (hk : ∀ p ∈ M, keyOf P k (KeyV.v p.1) = some (lit p.1)) :
    ∃ es : List (Lit × DataW Unit), w.ownsMap P k (fun _ => some (.nil, [])) b M.length (.map es) ∧ es.Perm (M.map (fun p => (lit p.1, .nil))) := by
  obtain ⟨es, clock, rfl, hsz, hx, hbn, hin⟩ := h.ex
  have hkey : es.toList.map (·.key) = M.map (fun p => KeyV.v p.1) := by
    apply List.ext_getElem (by simp [hsz])
    intro i h1 h2
    have hi' : i < M.length := by simpa using h2
    obtain ⟨e, e1, e2, _⟩ := hx i hi'
    have : es[i]'(by omega) = e := (Array.getElem?_eq_some_iff.1 e1).2
    simp [this, e2]
  have hrd : ∀ x ∈ es.toList, ∃ p ∈ M, x.key = KeyV.v p.1 := by
    intro x hx'
    have : x.key ∈ es.toList.map (·.key) := List.mem_map.2 ⟨x, hx', rfl⟩
    rw [hkey] at this
    obtain ⟨p, hp, e⟩ := List.mem_map.1 this
    exact ⟨p, hp, e.symm⟩
  have hrg : es.toList.map (WideElems.rg (H := Unit) P k (fun _ => some (.nil, []))) = M.map (fun p => (lit p.1, .nil)) := by
    apply List.ext_getElem (by simp [hsz])
    intro i h1 h2
    have hi' : i < M.length := by simpa using h2
    obtain ⟨e, e1, e2, _⟩ := hx i hi'
    have : es[i]'(by omega) = e := (Array.getElem?_eq_some_iff.1 e1).2
    simp [this, WideElems.rg, WideElems.rd, e2, hk _ (List.getElem_mem hi')]
  have hF : WideElems.Fit (H := Unit) P k (fun _ => some (.nil, [])) es clock := by
    refine ⟨by omega, ⟨fun x hx' => ?_, ?_, ?_⟩, fun x hx' => ?_⟩
    · obtain ⟨i, hi', e⟩ := List.getElem_of_mem hx'
      exact hbn i x (by rw [Array.getElem?_eq_getElem (by simpa using hi')]; rw [← e]; simp)
    · rw [List.nodup_iff_pairwise_ne, List.pairwise_iff_getElem]
      intro i j h1 h2 hij e
      have h1' : i < es.size := by simpa using h1
      have h2' : j < es.size := by simpa using h2
      have := hin i j (es[i]) (es[j]) (Array.getElem?_eq_getElem h1') (Array.getElem?_eq_getElem h2') (by simpa using e)
      omega
    · rw [hkey]
      have := h.nodup
      rw [List.nodup_iff_pairwise_ne, List.pairwise_map] at this ⊢
      exact this.imp (fun {a b} q e => q (hi _ _ e))
    · obtain ⟨p, hp, e⟩ := hrd x hx'
      exact ⟨(lit p.1, .nil), by simp [WideElems.rd, e, hk p hp]⟩
  exact ⟨_, ⟨es, clock, hb, hF, by omega, rfl⟩, by rw [hrg]; exact WideShapes.sorted_perm _⟩
theorem MapO.owns_str {α : Type} {vr : α → Value → Prop} {o : Obj} {M : List (ByteArray × α)} {P : Program} {k : TypeId} {w : World} {b : Nat} (h : MapO vr o M) (hb : w.heap[b]? = some o) (hu : P.underlying k = some .string) (hl : M.length ≤ maxLen) (hs : ∀ p ∈ M, p.1.size ≤ maxLen) :
    ∃ D : DataW Unit, w.ownsMap P k (fun _ => some (.nil, [])) b M.length D ∧ (strKeys D).Perm (M.map (fun p => p.1.data.toList)) ∧ Maps.size D = M.length := by
  obtain ⟨es, h1, h2⟩ := h.ownsL (P := P) (k := k) (fun s : ByteArray => Lit.string s.data.toList) (fun x y e => by injection e) hb hl (fun p hp => WideMaps.keyOf_string_mk hu (hs p hp))
  refine ⟨_, h1, ?_, ?_⟩
  · have := h2.map (fun p => strOf p.1)
    rw [List.map_map] at this
    exact this
  · have := h2.length_eq
    rw [List.length_map] at this
    exact this
theorem MapO.owns_int {α : Type} {vr : α → Value → Prop} {o : Obj} {M : List (Int × α)} {P : Program} {k : TypeId} {w : World} {b : Nat} (h : MapO vr o M) (hb : w.heap[b]? = some o) (hu : P.underlying k = some (.int .i64)) (hl : M.length ≤ maxLen) (hs : ∀ p ∈ M, IsI64 p.1) :
    ∃ D : DataW Unit, w.ownsMap P k (fun _ => some (.nil, [])) b M.length D ∧ (intKeys D).Perm (M.map (·.1)) ∧ Maps.size D = M.length := by
  obtain ⟨es, h1, h2⟩ := h.ownsL (P := P) (k := k) (fun s : Int => Lit.int .i64 s) (fun x y e => by injection e) hb hl (fun p hp => Maps.keyOf_int_mk hu (by have := hs p hp; simp [Lit.wf, IsI64, IntKind.min, IntKind.max, IntKind.signed, IntKind.bits] at *; omega))
  refine ⟨_, h1, ?_, ?_⟩
  · have := h2.map (fun p => _root_.Go.intOf p.1)
    rw [List.map_map] at this
    exact this
  · have := h2.length_eq
    rw [List.length_map] at this
    exact this
end Go.Proofs.YtnlhalnjbkpdnaaGreatDoor

namespace Go.Proofs.YtnlhalnjbkpdnaaGreatDoor
open Go.RowKit Go.Sort
set_option linter.unusedVariables false
set_option linter.unusedSimpArgs false
section
variable {α : Type} [Inhabited α] {enc : α → Value} {w : World} {B g cap : Nat} {E : TypeId}
theorem own_holds1 {l : List α} (h : w.ownsRow B E 1 (.slice (some ⟨g, 0, none⟩) l.length cap) l.length (l.map enc)) : Holds enc w g 0 l.toArray := by
  intro j hj
  have hj' : j < l.length := by simpa using hj
  rcases h.2 with ⟨h2, h3⟩ | ⟨g', c, cur, hv, hbg, hg, hnc, hcm, hcs, ht⟩
  · cases h2
  · cases hv
    refine ⟨?_, by simp [World.frozen?, hg]⟩
    have h1 : (cur.toList.take (l.length * 1))[j]? = (l.map enc)[j]? := by rw [ht]
    rw [List.getElem?_take_of_lt (by omega), Array.getElem?_toList, List.getElem?_map, List.getElem?_eq_getElem hj'] at h1
    simp only [World.cell?, hg, Nat.zero_add]
    simp only [Option.isSome_none, Bool.false_eq_true, if_false]
    rw [h1, getElem!_pos l.toArray j hj]
    simp
theorem own_put1 {l l' : List α} (h : w.ownsRow B E 1 (.slice (some ⟨g, 0, none⟩) l.length cap) l.length (l.map enc)) (m : Nat) (os : Array Obj) (hl : l'.length = l.length) :
    (grow (putRow enc (Sort.ahead w m) g 0 l'.toArray) os).ownsRow B E 1 (.slice (some ⟨g, 0, none⟩) l.length cap) l.length (l'.map enc) ∧ w.grownBy (grow (putRow enc (Sort.ahead w m) g 0 l'.toArray) os) (some g) := by
  rcases h.2 with ⟨h2, h3⟩ | ⟨g', c, cur, hv, hbg, hg, hnc, hcm, hcs, ht⟩
  · cases h2
  · cases hv
    have hgl : g < w.heap.size := (Array.getElem?_eq_some_iff.1 hg).1
    refine ⟨⟨by simp [hl], .inr ⟨g, cap, putCells enc 0 l'.toArray cur, rfl, hbg, ?_, hnc, hcm, by simp [putCells, hcs], ?_⟩⟩, rfl, rfl, rfl, ?_, fun j hj hne => ?_⟩
    · rw [heap_grow_old _ _ (by simpa [putRow, mapBlock, Sort.ahead] using hgl)]
      simp [putRow, mapBlock, Sort.ahead, Array.getElem?_modify, hg, onCells]
    · have hle : l.length ≤ cur.size := by rw [hcs]; omega
      apply List.ext_getElem?
      intro j
      by_cases hj : j < l.length
      · rw [List.getElem?_take_of_lt (by omega), Array.getElem?_toList]
        unfold putCells
        rw [Array.getElem?_mapIdx, Array.getElem?_eq_getElem (by omega), Option.map_some, if_pos ⟨Nat.zero_le _, by simp; omega⟩, List.getElem?_map, List.getElem?_eq_getElem (by omega), getElem!_pos _ _ (by simp; omega)]
        simp
      · rw [List.getElem?_take_eq_none (by omega), List.getElem?_eq_none (by simp; omega)]
    · simp [grow, putRow, mapBlock, Sort.ahead]
    · rw [heap_grow_old _ _ (by simpa [putRow, mapBlock, Sort.ahead] using hj)]
      have : g ≠ j := fun e => hne (by rw [e])
      simp [putRow, mapBlock, Sort.ahead, Array.getElem?_modify, this]
theorem own_cut1 {n n' : Nat} {cells : List Value} {a : Option Addr} (h : w.ownsRow B E 1 (.slice a n cap) n cells) (hn : n' ≤ n) : w.ownsRow B E 1 (.slice a n' cap) n' (cells.take n') := by
  obtain ⟨h1, h2⟩ := h
  refine ⟨by rw [List.length_take]; omega, ?_⟩
  rcases h2 with ⟨h2, h3⟩ | ⟨g', c, cur, hv, hbg, hg, hnc, hcm, hcs, ht⟩
  · cases h2
    exact .inl ⟨by congr 1; omega, by omega⟩
  · cases hv
    exact .inr ⟨g', _, cur, rfl, hbg, hg, by omega, hcm, hcs, by rw [← ht, List.take_take]; congr 1; omega⟩
end
theorem repL_str (φ : Phi) : ∀ (xs : List ByteArray) (cells : List Value), RepL φ xs cells ↔ cells = (xs.map (fun s => s.data.toList)).map encStr
  | [], cells => by simp [RepL]
  | x :: xs, cells => by
    constructor
    · rintro ⟨c, d, rfl, h1, h2⟩
      cases h1
      rw [(repL_str φ xs d).1 h2]
      rfl
    · intro h
      exact ⟨[.string x], _, h, rfl, (repL_str φ xs _).2 rfl⟩
theorem repL_int (φ : Phi) : ∀ (xs : List Int) (cells : List Value), RepL φ xs cells ↔ cells = xs.map (Value.int .i64)
  | [], cells => by simp [RepL]
  | x :: xs, cells => by
    constructor
    · rintro ⟨c, d, rfl, h1, h2⟩
      cases h1
      rw [(repL_int φ xs d).1 h2]
      rfl
    · intro h
      exact ⟨[.int .i64 x], _, h, rfl, (repL_int φ xs _).2 rfl⟩
/-- What the library's sort makes of a list, without repetitions, rises. -/
theorem sortT_compact (l : List (List UInt8)) : (Lib.compact (l.mergeSort (fun x y => decide (x ≤ y)))) = risT l := by
  have tr : ∀ a b c : List UInt8, leB a b = true → leB b c = true → leB a c = true := fun a b c h1 h2 => by simp only [leB, decide_eq_true_eq] at *; exact List.le_trans h1 h2
  have to : ∀ a b : List UInt8, (leB a b || leB b a) = true := fun a b => by simp only [leB, Bool.or_eq_true, decide_eq_true_eq]; exact List.le_total a b
  have hp := List.pairwise_mergeSort tr to l
  have hs : (l.mergeSort (fun x y => decide (x ≤ y))).Pairwise (fun a b => ltT b a = false) := hp.imp (fun {a b} h => by
    unfold ltT
    simp only [leB, decide_eq_true_eq] at h
    exact decide_eq_false (fun q => h q))
  obtain ⟨h1, h2⟩ := compact_rise ltT_tri hs
  exact risT_eq h1 (fun x => by rw [h2]; exact (List.mergeSort_perm l _).mem_iff)
theorem sortT_perm {l L : List (List UInt8)} (h : L.Perm l) (hn : L.Nodup) : L.mergeSort (fun x y => decide (x ≤ y)) = risT l := by
  have tr : ∀ a b c : List UInt8, leB a b = true → leB b c = true → leB a c = true := fun a b c h1 h2 => by simp only [leB, decide_eq_true_eq] at *; exact List.le_trans h1 h2
  have to : ∀ a b : List UInt8, (leB a b || leB b a) = true := fun a b => by simp only [leB, Bool.or_eq_true, decide_eq_true_eq]; exact List.le_total a b
  have hp := List.pairwise_mergeSort tr to L
  have hnd : (L.mergeSort (fun x y => decide (x ≤ y))).Nodup := (List.mergeSort_perm L _).nodup_iff.2 hn
  have hs : (L.mergeSort (fun x y => decide (x ≤ y))).Pairwise (fun a b => ltT a b = true) := by
    rw [List.nodup_iff_pairwise_ne] at hnd
    refine (hp.and hnd).imp (fun {a b} q => ?_)
    obtain ⟨q1, q2⟩ := q
    simp only [leB, decide_eq_true_eq] at q1
    refine ltT_tri b a (fun e => q2 e.symm) ?_
    unfold ltT
    exact decide_eq_false (fun q => q1 q)
  exact risT_eq hs (fun x => (List.mergeSort_perm L _).mem_iff.trans h.mem_iff)
theorem sortI_compact (l : List Int) : (Lib.compact (l.mergeSort (fun x y => decide (x ≤ y)))) = risI l := by
  have tr : ∀ a b c : Int, leI a b = true → leI b c = true → leI a c = true := fun a b c h1 h2 => by simp only [leI, decide_eq_true_eq] at *; omega
  have to : ∀ a b : Int, (leI a b || leI b a) = true := fun a b => by simp only [leI, Bool.or_eq_true, decide_eq_true_eq]; omega
  have hp := List.pairwise_mergeSort tr to l
  have hs : (l.mergeSort (fun x y => decide (x ≤ y))).Pairwise (fun a b => ltI b a = false) := hp.imp (fun {a b} h => by
    unfold ltI
    simp only [leI, decide_eq_true_eq] at h
    exact decide_eq_false (by omega))
  obtain ⟨h1, h2⟩ := compact_rise ltI_tri hs
  refine risI_eq (h1.imp (fun {a b} h => by unfold ltI at h; simpa using h)) (fun x => by rw [h2]; exact (List.mergeSort_perm l _).mem_iff)
theorem sortI_perm {l L : List Int} (h : L.Perm l) (hn : L.Nodup) : L.mergeSort (fun x y => decide (x ≤ y)) = risI l := by
  have tr : ∀ a b c : Int, leI a b = true → leI b c = true → leI a c = true := fun a b c h1 h2 => by simp only [leI, decide_eq_true_eq] at *; omega
  have to : ∀ a b : Int, (leI a b || leI b a) = true := fun a b => by simp only [leI, Bool.or_eq_true, decide_eq_true_eq]; omega
  have hp := List.pairwise_mergeSort tr to L
  have hnd : (L.mergeSort (fun x y => decide (x ≤ y))).Nodup := (List.mergeSort_perm L _).nodup_iff.2 hn
  rw [List.nodup_iff_pairwise_ne] at hnd
  refine risI_eq ((hp.and hnd).imp (fun {a b} q => ?_)) (fun x => (List.mergeSort_perm L _).mem_iff.trans h.mem_iff)
  obtain ⟨q1, q2⟩ := q
  simp only [leI, decide_eq_true_eq] at q1
  omega
end Go.Proofs.YtnlhalnjbkpdnaaGreatDoor
