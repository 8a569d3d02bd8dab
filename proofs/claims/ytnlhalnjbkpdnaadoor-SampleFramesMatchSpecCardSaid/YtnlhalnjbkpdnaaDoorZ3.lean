/- Rows of one cell an element that the library sorts and compacts. Conditions: none; plain Lean over the guide's library. -/
import Derived.Test.YtnlhalnjbkpdnaaDoorLit
import Derived.Test.YtnlhalnjbkpdnaaDoorZ2
import Derived.Sort.Row
namespace Go.Proofs.YtnlhalnjbkpdnaaDoor
open Go.RowKit Go.Sort
set_option linter.unusedVariables false
set_option linter.unusedSimpArgs false
section
variable {α : Type} [Inhabited α] {enc : α → Value} {w : World} {B g cap : Nat} {E : TypeId}
theorem own_holds1 {l : List α} (h : w.ownsRow B E 1 (.slice (some ⟨g, 0, none⟩) l.length cap) l.length (l.map enc)) : Holds enc w g 0 l.toArray := by
  intro j hj
  have hj' : j < l.length := by simpa using hj
  rcases h.2 with ⟨h2, h3⟩ | ⟨g', c, cur, hv, hbg, hg, hnc, hcm, hcs, ht⟩
  · cases h2
  · cases hv
    refine ⟨?_, by simp [World.frozen?, hg]⟩
    have h1 : (cur.toList.take (l.length * 1))[j]? = (l.map enc)[j]? := by rw [ht]
    rw [List.getElem?_take_of_lt (by omega), Array.getElem?_toList, List.getElem?_map, List.getElem?_eq_getElem hj'] at h1
    simp only [World.cell?, hg, Nat.zero_add]
    simp only [Option.isSome_none, Bool.false_eq_true, if_false]
    rw [h1, getElem!_pos l.toArray j hj]
    simp
theorem own_put1 {l l' : List α} (h : w.ownsRow B E 1 (.slice (some ⟨g, 0, none⟩) l.length cap) l.length (l.map enc)) (m : Nat) (os : Array Obj) (hl : l'.length = l.length) :
    (grow (putRow enc (Sort.ahead w m) g 0 l'.toArray) os).ownsRow B E 1 (.slice (some ⟨g, 0, none⟩) l.length cap) l.length (l'.map enc) ∧ w.grownBy (grow (putRow enc (Sort.ahead w m) g 0 l'.toArray) os) (some g) := by
  rcases h.2 with ⟨h2, h3⟩ | ⟨g', c, cur, hv, hbg, hg, hnc, hcm, hcs, ht⟩
  · cases h2
  · cases hv
    have hgl : g < w.heap.size := (Array.getElem?_eq_some_iff.1 hg).1
    refine ⟨⟨by simp [hl], .inr ⟨g, cap, putCells enc 0 l'.toArray cur, rfl, hbg, ?_, hnc, hcm, by simp [putCells, hcs], ?_⟩⟩, rfl, rfl, rfl, ?_, fun j hj hne => ?_⟩
    · rw [heap_grow_old _ _ (by simpa [putRow, mapBlock, Sort.ahead] using hgl)]
      simp [putRow, mapBlock, Sort.ahead, Array.getElem?_modify, hg, onCells]
    · have hle : l.length ≤ cur.size := by rw [hcs]; omega
      apply List.ext_getElem?
      intro j
      by_cases hj : j < l.length
      · rw [List.getElem?_take_of_lt (by omega), Array.getElem?_toList]
        unfold putCells
        rw [Array.getElem?_mapIdx, Array.getElem?_eq_getElem (by omega), Option.map_some, if_pos ⟨Nat.zero_le _, by simp; omega⟩, List.getElem?_map, List.getElem?_eq_getElem (by omega), getElem!_pos _ _ (by simp; omega)]
        simp
      · rw [List.getElem?_take_eq_none (by omega), List.getElem?_eq_none (by simp; omega)]
    · simp [grow, putRow, mapBlock, Sort.ahead]
    · rw [heap_grow_old _ _ (by simpa [putRow, mapBlock, Sort.ahead] using hj)]
      have : g ≠ j := fun e => hne (by rw [e])
      simp [putRow, mapBlock, Sort.ahead, Array.getElem?_modify, this]
theorem own_cut1 {n n' : Nat} {cells : List Value} {a : Option Addr} (h : w.ownsRow B E 1 (.slice a n cap) n cells) (hn : n' ≤ n) : w.ownsRow B E 1 (.slice a n' cap) n' (cells.take n') := by
  obtain ⟨h1, h2⟩ := h
  refine ⟨by rw [List.length_take]; omega, ?_⟩
  rcases h2 with ⟨h2, h3⟩ | ⟨g', c, cur, hv, hbg, hg, hnc, hcm, hcs, ht⟩
  · cases h2
    exact .inl ⟨by congr 1; omega, by omega⟩
  · cases hv
    exact .inr ⟨g', _, cur, rfl, hbg, hg, by omega, hcm, hcs, by rw [← ht, List.take_take]; congr 1; omega⟩
end
theorem repL_str (φ : Phi) : ∀ (xs : List ByteArray) (cells : List Value), RepL φ xs cells ↔ cells = (xs.map (fun s => s.data.toList)).map encStr
  | [], cells => by simp [RepL]
  | x :: xs, cells => by
    constructor
    · rintro ⟨c, d, rfl, h1, h2⟩
      cases h1
      rw [(repL_str φ xs d).1 h2]
      rfl
    · intro h
      exact ⟨[.string x], _, h, rfl, (repL_str φ xs _).2 rfl⟩
theorem repL_int (φ : Phi) : ∀ (xs : List Int) (cells : List Value), RepL φ xs cells ↔ cells = xs.map (Value.int .i64)
  | [], cells => by simp [RepL]
  | x :: xs, cells => by
    constructor
    · rintro ⟨c, d, rfl, h1, h2⟩
      cases h1
      rw [(repL_int φ xs d).1 h2]
      rfl
    · intro h
      exact ⟨[.int .i64 x], _, h, rfl, (repL_int φ xs _).2 rfl⟩
/-- What the library's sort makes of a list, without repetitions, rises. -/
theorem sortT_compact (l : List (List UInt8)) : (Lib.compact (l.mergeSort (fun x y => decide (x ≤ y)))) = risT l := by
  have tr : ∀ a b c : List UInt8, leB a b = true → leB b c = true → leB a c = true := fun a b c h1 h2 => by simp only [leB, decide_eq_true_eq] at *; exact List.le_trans h1 h2
  have to : ∀ a b : List UInt8, (leB a b || leB b a) = true := fun a b => by simp only [leB, Bool.or_eq_true, decide_eq_true_eq]; exact List.le_total a b
  have hp := List.pairwise_mergeSort tr to l
  have hs : (l.mergeSort (fun x y => decide (x ≤ y))).Pairwise (fun a b => ltT b a = false) := hp.imp (fun {a b} h => by
    unfold ltT
    simp only [leB, decide_eq_true_eq] at h
    exact decide_eq_false (fun q => h q))
  obtain ⟨h1, h2⟩ := compact_rise ltT_tri hs
  exact risT_eq h1 (fun x => by rw [h2]; exact (List.mergeSort_perm l _).mem_iff)
theorem sortT_perm {l L : List (List UInt8)} (h : L.Perm l) (hn : L.Nodup) : L.mergeSort (fun x y => decide (x ≤ y)) = risT l := by
  have tr : ∀ a b c : List UInt8, leB a b = true → leB b c = true → leB a c = true := fun a b c h1 h2 => by simp only [leB, decide_eq_true_eq] at *; exact List.le_trans h1 h2
  have to : ∀ a b : List UInt8, (leB a b || leB b a) = true := fun a b => by simp only [leB, Bool.or_eq_true, decide_eq_true_eq]; exact List.le_total a b
  have hp := List.pairwise_mergeSort tr to L
  have hnd : (L.mergeSort (fun x y => decide (x ≤ y))).Nodup := (List.mergeSort_perm L _).nodup_iff.2 hn
  have hs : (L.mergeSort (fun x y => decide (x ≤ y))).Pairwise (fun a b => ltT a b = true) := by
    rw [List.nodup_iff_pairwise_ne] at hnd
    refine (hp.and hnd).imp (fun {a b} q => ?_)
    obtain ⟨q1, q2⟩ := q
    simp only [leB, decide_eq_true_eq] at q1
    refine ltT_tri b a (fun e => q2 e.symm) ?_
    unfold ltT
    exact decide_eq_false (fun q => q1 q)
  exact risT_eq hs (fun x => (List.mergeSort_perm L _).mem_iff.trans h.mem_iff)
theorem sortI_compact (l : List Int) : (Lib.compact (l.mergeSort (fun x y => decide (x ≤ y)))) = risI l := by
  have tr : ∀ a b c : Int, leI a b = true → leI b c = true → leI a c = true := fun a b c h1 h2 => by simp only [leI, decide_eq_true_eq] at *; omega
  have to : ∀ a b : Int, (leI a b || leI b a) = true := fun a b => by simp only [leI, Bool.or_eq_true, decide_eq_true_eq]; omega
  have hp := List.pairwise_mergeSort tr to l
  have hs : (l.mergeSort (fun x y => decide (x ≤ y))).Pairwise (fun a b => ltI b a = false) := hp.imp (fun {a b} h => by
    unfold ltI
    simp only [leI, decide_eq_true_eq] at h
    exact decide_eq_false (by omega))
  obtain ⟨h1, h2⟩ := compact_rise ltI_tri hs
  refine risI_eq (h1.imp (fun {a b} h => by unfold ltI at h; simpa using h)) (fun x => by rw [h2]; exact (List.mergeSort_perm l _).mem_iff)
theorem sortI_perm {l L : List Int} (h : L.Perm l) (hn : L.Nodup) : L.mergeSort (fun x y => decide (x ≤ y)) = risI l := by
  have tr : ∀ a b c : Int, leI a b = true → leI b c = true → leI a c = true := fun a b c h1 h2 => by simp only [leI, decide_eq_true_eq] at *; omega
  have to : ∀ a b : Int, (leI a b || leI b a) = true := fun a b => by simp only [leI, Bool.or_eq_true, decide_eq_true_eq]; omega
  have hp := List.pairwise_mergeSort tr to L
  have hnd : (L.mergeSort (fun x y => decide (x ≤ y))).Nodup := (List.mergeSort_perm L _).nodup_iff.2 hn
  rw [List.nodup_iff_pairwise_ne] at hnd
  refine risI_eq ((hp.and hnd).imp (fun {a b} q => ?_)) (fun x => (List.mergeSort_perm L _).mem_iff.trans h.mem_iff)
  obtain ⟨q1, q2⟩ := q
  simp only [leI, decide_eq_true_eq] at q1
  omega
end Go.Proofs.YtnlhalnjbkpdnaaDoor
