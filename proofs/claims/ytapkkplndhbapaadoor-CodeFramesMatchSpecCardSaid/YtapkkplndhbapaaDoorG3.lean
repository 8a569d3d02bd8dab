/- The text of a frame, and how long it can be: the plain law. Conditions: none; plain Lean. -/
import Derived.Test.YtapkkplndhbapaaDoorG2
import Derived.Test.YtapkkplndhbapaaDoorIto
import Derived.Test.YtapkkplndhbapaaDoorBld
namespace Go.Proofs.YtapkkplndhbapaaDoor
open Go.RowKit
set_option linter.unusedVariables false
def indB (k : Nat) : ByteArray := ⟨(Lib.repeatL (⟨#[32, 32]⟩ : ByteArray).data.toList k).toArray⟩
def lineB (l : List Nod) (lev i : Nat) : ByteArray := (((indB lev ++ itoaB (cod l i)) ++ ⟨#[32]⟩) ++ tit l i) ++ ⟨#[10]⟩
def txK (l : List Nod) (sub : Int → ByteArray) (p : Int) (lev : Nat) : Nat → ByteArray
  | 0 => ⟨#[]⟩
  | k + 1 => if par0 l k = p then txK l sub p lev k ++ (lineB l lev k ++ sub (cod l k)) else txK l sub p lev k
/-- The lines of the nodes below p, which is at level lev. -/
def txD (l : List Nod) : Nat → Int → Nat → ByteArray
  | 0, _, _ => ⟨#[]⟩
  | d + 1, p, lev => txK l (fun c => txD l d c (lev + 1)) p lev l.length
def ordK (l : List Nod) (sub : Int → List Nat) (p : Int) : Nat → List Nat
  | 0 => []
  | k + 1 => if par0 l k = p then ordK l sub p k ++ (k :: sub (cod l k)) else ordK l sub p k
/-- Their numbers, in the order of the lines. -/
def ordD (l : List Nod) : Nat → Int → List Nat
  | 0, _ => []
  | d + 1, p => ordK l (ordD l d) p l.length
theorem itC_add (l : List Nod) : ∀ (i j : Nat) (c : Int), itC l i (itC l j c) = itC l (i + j) c
  | 0, j, c => by rw [Nat.zero_add]; rfl
  | i + 1, j, c => by rw [itC, itC_add l i j c, show i + 1 + j = (i + j) + 1 by omega, itC]
section
variable {l : List Nod} {n : Nat}
/-- Node i is below p, by j steps. -/
def Blw (l : List Nod) (i : Nat) (p : Int) : Prop := ∃ j, 1 ≤ j ∧ itC l j (cod l i) = p ∧ lvl l (cod l i) = lvl l p + j
theorem lvl_node (h : TrOk l n) {i : Nat} (hi : i < n) : (ix l (cod l i)).isSome = true ∧ lvl l (cod l i) = lvl l (par0 l i) + 1 ∧ parC l (cod l i) = par0 l i := by
  have hx : (ix l (cod l i)).isSome = true := by rw [h.ix_of hi]; rfl
  have h1 := (lvl_par h hx).1
  have h2 : parC l (cod l i) = par0 l i := by rw [parC, h.at_of hi]
  rw [h2] at h1
  exact ⟨hx, h1, h2⟩
theorem ordK_mem (h : TrOk l n) {sub : Int → List Nat} {p : Int} (hs : ∀ m, m < n → par0 l m = p → ∀ i ∈ sub (cod l m), i < n ∧ Blw l i (cod l m)) : ∀ k, k ≤ n → ∀ i ∈ ordK l sub p k, i < n ∧ ∃ m, m < k ∧ par0 l m = p ∧ (i = m ∨ Blw l i (cod l m))
  | 0, _, i, hi => by simp [ordK] at hi
  | k + 1, hk, i, hi => by
    rw [ordK] at hi
    split at hi
    · next hp =>
      rcases List.mem_append.1 hi with hi | hi
      · obtain ⟨h1, m, h2, h3⟩ := ordK_mem h hs k (by omega) i hi
        exact ⟨h1, m, by omega, h3⟩
      · rcases List.mem_cons.1 hi with rfl | hi
        · exact ⟨by omega, i, by omega, hp, .inl rfl⟩
        · obtain ⟨h1, h2⟩ := hs k (by omega) hp i hi
          exact ⟨h1, k, by omega, hp, .inr h2⟩
    · obtain ⟨h1, m, h2, h3⟩ := ordK_mem h hs k (by omega) i hi
      exact ⟨h1, m, by omega, h3⟩
theorem ordK_nodup (h : TrOk l n) {sub : Int → List Nat} {p : Int} (hs : ∀ m, m < n → par0 l m = p → ∀ i ∈ sub (cod l m), i < n ∧ Blw l i (cod l m)) (hn : ∀ m, m < n → par0 l m = p → (sub (cod l m)).Nodup) : ∀ k, k ≤ n → (ordK l sub p k).Nodup
  | 0, _ => by simp [ordK]
  | k + 1, hk => by
    have ih := ordK_nodup h hs hn k (by omega)
    rw [ordK]
    split
    · next hp =>
      have hlk := (lvl_node h (i := k) (by omega)).2.1
      rw [List.nodup_append]
      refine ⟨ih, List.nodup_cons.2 ⟨fun hm => ?_, hn k (by omega) hp⟩, fun i hi j hj e => ?_⟩
      · obtain ⟨_, j, h1, _, h2⟩ := hs k (by omega) hp k hm
        omega
      · subst e
        obtain ⟨_, m, hm, hpm, h1⟩ := ordK_mem h hs k (by omega) i hi
        have hlm := (lvl_node h (i := m) (by omega)).2.1
        rw [hp] at hlk
        rw [hpm] at hlm
        rcases List.mem_cons.1 hj with rfl | hj
        · rcases h1 with h1 | ⟨j, h2, _, h3⟩
          · omega
          · omega
        · obtain ⟨_, j, h4, h5, h6⟩ := hs k (by omega) hp i hj
          rcases h1 with rfl | ⟨j', h2, h3, h3'⟩
          · omega
          · have ej : j = j' := by omega
            subst ej
            have := h.inj m k (by omega) (by omega) (h3.symm.trans h5)
            omega
    · exact ih
theorem ordD_ok (h : TrOk l n) : ∀ (d : Nat) (p : Int), (∀ i ∈ ordD l d p, i < n ∧ Blw l i p) ∧ (ordD l d p).Nodup
  | 0, p => by simp [ordD]
  | d + 1, p => by
    have hs : ∀ m, m < n → par0 l m = p → ∀ i ∈ ordD l d (cod l m), i < n ∧ Blw l i (cod l m) := fun m _ _ => (ordD_ok h d _).1
    rw [ordD, h.len]
    refine ⟨fun i hi => ?_, ordK_nodup h hs (fun m _ _ => (ordD_ok h d _).2) n (Nat.le_refl _)⟩
    obtain ⟨h1, m, hm, hp, h2⟩ := ordK_mem h hs n (Nat.le_refl _) i hi
    have h3 := lvl_node h (i := m) (by omega)
    rw [hp] at h3
    refine ⟨h1, ?_⟩
    rcases h2 with rfl | ⟨j, h4, h5, h6⟩
    · exact ⟨1, Nat.le_refl _, by rw [itC, itC]; exact h3.2.2, h3.2.1⟩
    · exact ⟨j + 1, by omega, by rw [itC, h5]; exact h3.2.2, by omega⟩
theorem ordD_len (h : TrOk l n) (d : Nat) (p : Int) : (ordD l d p).length ≤ n := by
  obtain ⟨h1, h2⟩ := ordD_ok h d p
  have := nodup_sub ((ordD l d p).map (fun i : Nat => (i : Int))) ((List.range n).map (fun i : Nat => (i : Int))) (by
    unfold List.Nodup at h2 ⊢
    rw [List.pairwise_map]
    exact h2.imp (fun h e => h (by omega))) (fun x hx => by
    obtain ⟨i, hi, rfl⟩ := List.mem_map.1 hx
    exact List.mem_map.2 ⟨i, List.mem_range.2 (h1 i hi).1, rfl⟩)
  simpa using this
theorem indB_size (k : Nat) : (indB k).size = 2 * k := by
  show (Lib.repeatL (⟨#[32, 32]⟩ : ByteArray).data.toList k).toArray.size = _
  rw [List.size_toArray, Lib.repeatL_length]
  show k * 2 = _
  omega
theorem lineB_size (h : TrOk l n) {lev i : Nat} (hl : lev ≤ 9) (hi : i < n) : (lineB l lev i).size ≤ 100 := by
  have h1 := h.rng i hi
  have h2 := itoaB_size (n := cod l i) (by omega) (by omega)
  have h3 := (h.tit i hi).1
  unfold lineB
  simp only [ByteArray.size_append, indB_size]
  have e1 : (⟨#[32]⟩ : ByteArray).size = 1 := rfl
  have e2 : (⟨#[10]⟩ : ByteArray).size = 1 := rfl
  omega
theorem txK_size (h : TrOk l n) {sub : Int → ByteArray} {ord : Int → List Nat} {p : Int} {lev : Nat} (hl : lev ≤ 9) (hs : ∀ c, (sub c).size ≤ 100 * (ord c).length) : ∀ k, k ≤ n → (txK l sub p lev k).size ≤ 100 * (ordK l ord p k).length
  | 0, _ => by show (⟨#[]⟩ : ByteArray).size ≤ _; exact Nat.zero_le _
  | k + 1, hk => by
    have ih := txK_size h (sub := sub) (ord := ord) (p := p) hl hs k (by omega)
    have h1 := lineB_size h hl (i := k) (by omega)
    have h2 := hs (cod l k)
    rw [txK, ordK]
    split
    · rw [ByteArray.size_append, ByteArray.size_append, List.length_append, List.length_cons]; omega
    · exact ih
theorem txD_size (h : TrOk l n) : ∀ (d : Nat) (p : Int) (lev : Nat), lev + d ≤ 9 → (txD l d p lev).size ≤ 100 * (ordD l d p).length
  | 0, p, lev, _ => by show (⟨#[]⟩ : ByteArray).size ≤ _; exact Nat.zero_le _
  | d + 1, p, lev, hd => by
    rw [txD, ordD, h.len]
    exact txK_size h (by omega) (fun c => txD_size h d c (lev + 1) (by omega)) n (Nat.le_refl _)
theorem txD_le (h : TrOk l n) (d : Nat) (p : Int) (lev : Nat) (hd : lev + d ≤ 9) : (txD l d p lev).size ≤ 60000 := by
  have h1 := txD_size h d p lev hd
  have h2 := ordD_len h d p
  have h3 := h.pos.2
  omega
theorem txK_mono (sub : Int → ByteArray) (p : Int) (lev : Nat) : ∀ {k m : Nat}, k ≤ m → (txK l sub p lev k).size ≤ (txK l sub p lev m).size
  | k, 0, hk => by obtain rfl : k = 0 := by omega
                   exact Nat.le_refl _
  | k, m + 1, hk => by
    by_cases e : k = m + 1
    · subst e; exact Nat.le_refl _
    · have := txK_mono sub p lev (k := k) (m := m) (by omega)
      rw [txK]
      split
      · rw [ByteArray.size_append]; omega
      · exact this
end
/-- What Text hands back. -/
noncomputable def textF (l : List Nod) : ByteArray × Int := if treeF l ≠ 0 then (⟨#[]⟩, treeF l) else (txD l 9 0 0, 0)
end Go.Proofs.YtapkkplndhbapaaDoor
