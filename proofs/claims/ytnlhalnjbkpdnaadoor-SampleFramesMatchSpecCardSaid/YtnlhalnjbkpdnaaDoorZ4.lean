/- The library's sort and Compact at rows of the call's own; the keys of a map, sorted. Conditions: none beyond what each states. -/
import Derived.Test.YtnlhalnjbkpdnaaDoorZ3
import Derived.Test.YtnlhalnjbkpdnaaDoorZ1
import Derived.Test.YtnlhalnjbkpdnaaDoorGrp
import Derived.Test.YtnlhalnjbkpdnaaDoorSh3
import Derived.Test.YtnlhalnjbkpdnaaDoorSh4
import Derived.Test.YtnlhalnjbkpdnaaDoorSh2
namespace Go.Proofs.YtnlhalnjbkpdnaaDoor
open Go.RowKit Go.Shelf Go.Sort
set_option linter.unusedVariables false
set_option linter.unusedSimpArgs false
/-- A new slice of the call's own, handed back. -/
def SlP {α : Type} [Rep α] (xs : List α) (φ : Phi) (w : World) (e : Ending) (w' : World) : Prop :=
  ∃ (a : Option Addr) (cap : Nat) (φ' : Phi), e = .returned (.slice a xs.length cap) ∧ Inv w.heap.size w φ φ' w' ∧ SlV φ' a cap xs
theorem map_ofT (xs : List ByteArray) : (xs.map btT).map ofT = xs := by
  rw [List.map_map]
  exact List.map_id' xs
theorem map_btT (xs : List (List UInt8)) : (xs.map ofT).map btT = xs := by
  rw [List.map_map]
  exact List.map_id' xs
theorem Own.nilS {B : Nat} {φ : Phi} {w : World} {E : TypeId} {a : Option Addr} {cap : Nat} {α : Type} [Rep α] {xs : List α} (h : Own B φ w E a cap xs) (hx : xs ≠ []) : ∃ g, a = some ⟨g, 0, none⟩ ∧ B ≤ g ∧ g < w.heap.size := by
  obtain ⟨cells, ⟨h1, h2⟩, hr⟩ := h.row
  rcases h2 with ⟨h2, h3⟩ | ⟨g, c, cur, hv, hbg, hg, hnc, hcm, hcs, ht⟩
  · exact absurd (List.eq_nil_of_length_eq_zero h3) hx
  · cases hv
    exact ⟨g, rfl, hbg, (Array.getElem?_eq_some_iff.1 hg).1⟩
theorem SSort_own {w0 w : World} {φ0 φ : Phi} {B n : Nat} {a : Option Addr} {cap : Nat} {xs : List ByteArray} (hi : Inv B w0 φ0 φ w) (h : Own B φ w 9 a cap xs) (hn : Hid (xs.length = n)) (hl : n ≤ 20000) :
    Calls Tryd.prog 21 #[.slice a n cap] w fun e w' => e = .returned (.tuple #[]) ∧ ∃ ys : List ByteArray, ys = ((xs.map btT).mergeSort (fun x y => decide (x ≤ y))).map ofT ∧ ys.length = n ∧ Inv B w0 φ0 φ w' ∧ Own B φ w' 9 a cap ys ∧ w.grownBy w' (a.map (·.block)) := by
  have hn := hn.out
  subst hn
  by_cases hx : xs = []
  · subst hx
    have hc := AnyM.slices_Sort_string_none Tryd.sortS a cap w
    change Calls Tryd.prog 21 _ _ _ at hc
    refine hc.mono ?_
    rintro e w' ⟨rfl, rfl⟩
    exact ⟨rfl, [], by simp, rfl, hi, h, ⟨rfl, rfl, rfl, Nat.le_refl _, fun _ _ _ => rfl⟩⟩
  · obtain ⟨g, rfl, hbg, hgl⟩ := h.nilS hx
    obtain ⟨cells, hrow, hr⟩ := h.row
    rw [repL_str] at hr
    subst hr
    have hcon := AnyM.slices_Sort_string Tryd.sortS g 0 cap (xs.map btT) w (own_holds1 (enc := encStr) (by rw [List.length_map]; exact hrow)) hgl (by rw [List.length_map]; omega)
    change Calls Tryd.prog 21 _ _ _ at hcon
    rw [List.length_map] at hcon
    refine hcon.mono ?_
    rintro e w' ⟨rfl, m, os, rfl⟩
    have hq := own_put1 (enc := encStr) (l := (xs.map btT)) (by rw [List.length_map]; exact hrow) m os (l' := ((xs.map btT)).mergeSort (fun x y => decide (x ≤ y))) (by rw [List.length_mergeSort])
    rw [List.length_map] at hq
    obtain ⟨q1, q2⟩ := hq
    refine ⟨rfl, ((xs.map btT).mergeSort (fun x y => decide (x ≤ y))).map ofT, rfl, by rw [List.length_map, List.length_mergeSort, List.length_map], hi.write hbg (h.free _ rfl) q2, ⟨⟨_, by rw [List.length_map, List.length_mergeSort, List.length_map]; exact q1, (repL_str _ _ _).2 (by rw [show (fun s : ByteArray => s.data.toList) = btT from rfl, map_btT])⟩, h.free⟩, q2⟩
theorem ISort_own {w0 w : World} {φ0 φ : Phi} {B n : Nat} {a : Option Addr} {cap : Nat} {xs : List Int} (hi : Inv B w0 φ0 φ w) (h : Own B φ w 3 a cap xs) (hn : Hid (xs.length = n)) (hl : n ≤ 20000) :
    Calls Tryd.prog 23 #[.slice a n cap] w fun e w' => e = .returned (.tuple #[]) ∧ ∃ ys : List Int, ys = xs.mergeSort (fun x y => decide (x ≤ y)) ∧ ys.length = n ∧ Inv B w0 φ0 φ w' ∧ Own B φ w' 3 a cap ys ∧ w.grownBy w' (a.map (·.block)) := by
  have hn := hn.out
  subst hn
  by_cases hx : xs = []
  · subst hx
    have hc := AnyM.slices_Sort_int_none Tryd.sortI a cap w
    change Calls Tryd.prog 23 _ _ _ at hc
    refine hc.mono ?_
    rintro e w' ⟨rfl, rfl⟩
    exact ⟨rfl, [], by simp, rfl, hi, h, ⟨rfl, rfl, rfl, Nat.le_refl _, fun _ _ _ => rfl⟩⟩
  · obtain ⟨g, rfl, hbg, hgl⟩ := h.nilS hx
    obtain ⟨cells, hrow, hr⟩ := h.row
    rw [repL_int] at hr
    subst hr
    have hcon := AnyM.slices_Sort_int Tryd.sortI g 0 cap xs w (own_holds1 (enc := Value.int .i64) (by skip; exact hrow)) hgl (by skip; omega)
    change Calls Tryd.prog 23 _ _ _ at hcon
    skip
    refine hcon.mono ?_
    rintro e w' ⟨rfl, m, os, rfl⟩
    have hq := own_put1 (enc := Value.int .i64) (l := xs) (by skip; exact hrow) m os (l' := (xs).mergeSort (fun x y => decide (x ≤ y))) (by rw [List.length_mergeSort])
    skip
    obtain ⟨q1, q2⟩ := hq
    refine ⟨rfl, xs.mergeSort (fun x y => decide (x ≤ y)), rfl, by rw [List.length_mergeSort], hi.write hbg (h.free _ rfl) q2, ⟨⟨_, by rw [List.length_mergeSort]; exact q1, (repL_int _ _ _).2 (by rfl)⟩, h.free⟩, q2⟩
end Go.Proofs.YtnlhalnjbkpdnaaDoor
