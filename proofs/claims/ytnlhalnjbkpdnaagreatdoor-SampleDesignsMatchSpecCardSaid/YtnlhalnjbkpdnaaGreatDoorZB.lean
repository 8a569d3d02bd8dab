/- The library's sort and Compact at rows of the call's own; the keys of a map, sorted. slices.Compact at rows of the call's own; slices.Sorted over the keys of a map. Conditions: none beyond what the claim form gives. -/
import Derived.Test.YtnlhalnjbkpdnaaGreatDoorZA
import Derived.Test.YtnlhalnjbkpdnaaGreatDoorLB
import Derived.Test.YtnlhalnjbkpdnaaGreatDoorSh6
import Derived.Test.YtnlhalnjbkpdnaaGreatDoorSh7
import Derived.Test.YtnlhalnjbkpdnaaGreatDoorSh5
namespace Go.Proofs.YtnlhalnjbkpdnaaGreatDoor
open Go.RowKit Go.Shelf Go.Sort
set_option linter.unusedVariables false
set_option linter.unusedSimpArgs false
/-- A new slice of the call's own, handed back. -/
def SlP {α : Type} [Rep α] (xs : List α) (φ : Phi) (w : World) (e : Ending) (w' : World) : Prop :=
  ∃ (a : Option Addr) (cap : Nat) (φ' : Phi), e = .returned (.slice a xs.length cap) ∧ Inv w.heap.size w φ φ' w' ∧ SlV φ' a cap xs
theorem map_btT (xs : List (List UInt8)) : (xs.map ofT).map btT = xs := by
  rw [List.map_map]
  exact List.map_id' xs
theorem Own.nilS {B : Nat} {φ : Phi} {w : World} {E : TypeId} {a : Option Addr} {cap : Nat} {α : Type} [Rep α] {xs : List α} (h : Own B φ w E a cap xs) (hx : xs ≠ []) : ∃ g, a = some ⟨g, 0, none⟩ ∧ B ≤ g ∧ g < w.heap.size := by
  obtain ⟨cells, ⟨h1, h2⟩, hr⟩ := h.row
  rcases h2 with ⟨h2, h3⟩ | ⟨g, c, cur, hv, hbg, hg, hnc, hcm, hcs, ht⟩
  · exact absurd (List.eq_nil_of_length_eq_zero h3) hx
  · cases hv
    exact ⟨g, rfl, hbg, (Array.getElem?_eq_some_iff.1 hg).1⟩
theorem SSort_own {w0 w : World} {φ0 φ : Phi} {B n : Nat} {a : Option Addr} {cap : Nat} {xs : List ByteArray} (hi : Inv B w0 φ0 φ w) (h : Own B φ w 9 a cap xs) (hn : Hid (xs.length = n)) (hl : n ≤ 20000) :
    Calls Tryz.prog 96 #[.slice a n cap] w fun e w' => e = .returned (.tuple #[]) ∧ ∃ ys : List ByteArray, ys = ((xs.map btT).mergeSort (fun x y => decide (x ≤ y))).map ofT ∧ ys.length = n ∧ Inv B w0 φ0 φ w' ∧ Own B φ w' 9 a cap ys ∧ w.grownBy w' (a.map (·.block)) := by
  have hn := hn.out
  subst hn
  by_cases hx : xs = []
  · subst hx
    have hc := AnyM.slices_Sort_string_none Tryz.sortS a cap w
    change Calls Tryz.prog 96 _ _ _ at hc
    refine hc.mono ?_
    rintro e w' ⟨rfl, rfl⟩
    exact ⟨rfl, [], by simp, rfl, hi, h, ⟨rfl, rfl, rfl, Nat.le_refl _, fun _ _ _ => rfl⟩⟩
  · obtain ⟨g, rfl, hbg, hgl⟩ := h.nilS hx
    obtain ⟨cells, hrow, hr⟩ := h.row
    rw [repL_str] at hr
    subst hr
    have hcon := AnyM.slices_Sort_string Tryz.sortS g 0 cap (xs.map btT) w (own_holds1 (enc := encStr) (by rw [List.length_map]; exact hrow)) hgl (by rw [List.length_map]; omega)
    change Calls Tryz.prog 96 _ _ _ at hcon
    rw [List.length_map] at hcon
    refine hcon.mono ?_
    rintro e w' ⟨rfl, m, os, rfl⟩
    have hq := own_put1 (enc := encStr) (l := (xs.map btT)) (by rw [List.length_map]; exact hrow) m os (l' := ((xs.map btT)).mergeSort (fun x y => decide (x ≤ y))) (by rw [List.length_mergeSort])
    rw [List.length_map] at hq
    obtain ⟨q1, q2⟩ := hq
    refine ⟨rfl, ((xs.map btT).mergeSort (fun x y => decide (x ≤ y))).map ofT, rfl, by rw [List.length_map, List.length_mergeSort, List.length_map], hi.write hbg (h.free _ rfl) q2, ⟨⟨_, by rw [List.length_map, List.length_mergeSort, List.length_map]; exact q1, (repL_str _ _ _).2 (by rw [show (fun s : ByteArray => s.data.toList) = btT from rfl, map_btT])⟩, h.free⟩, q2⟩
theorem ISort_own {w0 w : World} {φ0 φ : Phi} {B n : Nat} {a : Option Addr} {cap : Nat} {xs : List Int} (hi : Inv B w0 φ0 φ w) (h : Own B φ w 3 a cap xs) (hn : Hid (xs.length = n)) (hl : n ≤ 20000) :
    Calls Tryz.prog 62 #[.slice a n cap] w fun e w' => e = .returned (.tuple #[]) ∧ ∃ ys : List Int, ys = xs.mergeSort (fun x y => decide (x ≤ y)) ∧ ys.length = n ∧ Inv B w0 φ0 φ w' ∧ Own B φ w' 3 a cap ys ∧ w.grownBy w' (a.map (·.block)) := by
  have hn := hn.out
  subst hn
  by_cases hx : xs = []
  · subst hx
    have hc := AnyM.slices_Sort_int_none Tryz.sortI a cap w
    change Calls Tryz.prog 62 _ _ _ at hc
    refine hc.mono ?_
    rintro e w' ⟨rfl, rfl⟩
    exact ⟨rfl, [], by simp, rfl, hi, h, ⟨rfl, rfl, rfl, Nat.le_refl _, fun _ _ _ => rfl⟩⟩
  · obtain ⟨g, rfl, hbg, hgl⟩ := h.nilS hx
    obtain ⟨cells, hrow, hr⟩ := h.row
    rw [repL_int] at hr
    subst hr
    have hcon := AnyM.slices_Sort_int Tryz.sortI g 0 cap xs w (own_holds1 (enc := Value.int .i64) (by skip; exact hrow)) hgl (by skip; omega)
    change Calls Tryz.prog 62 _ _ _ at hcon
    skip
    refine hcon.mono ?_
    rintro e w' ⟨rfl, m, os, rfl⟩
    have hq := own_put1 (enc := Value.int .i64) (l := xs) (by skip; exact hrow) m os (l' := (xs).mergeSort (fun x y => decide (x ≤ y))) (by rw [List.length_mergeSort])
    skip
    obtain ⟨q1, q2⟩ := hq
    refine ⟨rfl, xs.mergeSort (fun x y => decide (x ≤ y)), rfl, by rw [List.length_mergeSort], hi.write hbg (h.free _ rfl) q2, ⟨⟨_, by rw [List.length_mergeSort]; exact q1, (repL_int _ _ _).2 (by rfl)⟩, h.free⟩, q2⟩
end Go.Proofs.YtnlhalnjbkpdnaaGreatDoor

namespace Go.Proofs.YtnlhalnjbkpdnaaGreatDoor
open Go.RowKit Go.Shelf Go.Sort
set_option linter.unusedVariables false
set_option linter.unusedSimpArgs false
theorem grow_nil (w : World) : grow w #[] = w := by simp [grow]
theorem compact_len {α : Type} [Inhabited α] [DecidableEq α] (zs : List α) : (Lib.compact zs).length ≤ zs.length := by
  unfold Lib.compact Lib.compactUpTo
  rw [List.length_map]
  exact Nat.le_trans (List.length_filter_le _ _) (by simp)
theorem SCompact_own {w0 w : World} {φ0 φ : Phi} {B n : Nat} {a : Option Addr} {cap : Nat} {xs : List ByteArray} (hi : Inv B w0 φ0 φ w) (h : Own B φ w 9 a cap xs) (hn : Hid (xs.length = n)) (hl : n ≤ 20000) :
    Calls Tryz.prog 97 #[.slice a n cap] w fun e w' => ∃ ys : List ByteArray, ys = (Lib.compact (xs.map btT)).map ofT ∧ e = .returned (.slice a ys.length cap) ∧ Inv B w0 φ0 φ w' ∧ Own B φ w' 9 a cap ys := by
  have hn := hn.out
  subst hn
  by_cases hx : xs = []
  · subst hx
    have hc := Tryz.slices_Compact_string_empty a cap w
    refine hc.mono ?_
    rintro e w' ⟨rfl, rfl⟩
    exact ⟨[], by rfl, rfl, hi, h⟩
  · obtain ⟨g, rfl, hbg, hgl⟩ := h.nilS hx
    obtain ⟨cells, hrow, hr⟩ := h.row
    have hcap := h.cap_le
    rw [repL_str] at hr
    subst hr
    have hcon := Tryz.slices_Compact_string g 0 cap (xs.map btT) w (own_holds1 (enc := encStr) (by rw [List.length_map]; exact hrow)) (by rw [List.length_map]; omega) (by rw [List.length_map]; exact hcap.1)
    obtain ⟨C, hC⟩ : ∃ C, Lib.compact (xs.map btT) = C := ⟨_, rfl⟩
    have hCl : C.length ≤ xs.length := by rw [← hC]; exact Nat.le_trans (compact_len _) (by rw [List.length_map]; exact Nat.le_refl _)
    rw [hC] at hcon
    rw [List.length_map] at hcon
    refine hcon.mono ?_
    rintro e w' ⟨rfl, m, rfl⟩
    have hq := own_put1 (enc := encStr) (l := (xs.map btT)) (by rw [List.length_map]; exact hrow) m #[] (l' := C ++ List.replicate (xs.length - C.length) []) (by rw [List.length_map]; rw [List.length_append, List.length_replicate]; omega)
    rw [List.length_map] at hq
    obtain ⟨q1, q2⟩ := hq
    rw [grow_nil] at q1 q2
    have q3 := own_cut1 q1 hCl
    have hr2 : List.take C.length ((C ++ List.replicate (xs.length - C.length) []).map (encStr)) = C.map (encStr) := by
      rw [List.map_append, List.take_append_of_le_length (by rw [List.length_map]; exact Nat.le_refl _), List.take_of_length_le (by rw [List.length_map]; exact Nat.le_refl _)]
    rw [hr2] at q3
    refine ⟨C.map ofT, by rw [hC], by rw [List.length_map], hi.write hbg (h.free _ rfl) q2, ⟨⟨_, by rw [List.length_map]; exact q3, (repL_str _ _ _).2 (by rw [show (fun s : ByteArray => s.data.toList) = btT from rfl, map_btT])⟩, h.free⟩⟩
theorem ICompact_own {w0 w : World} {φ0 φ : Phi} {B n : Nat} {a : Option Addr} {cap : Nat} {xs : List Int} (hi : Inv B w0 φ0 φ w) (h : Own B φ w 3 a cap xs) (hn : Hid (xs.length = n)) (hl : n ≤ 20000) :
    Calls Tryz.prog 155 #[.slice a n cap] w fun e w' => ∃ ys : List Int, ys = Lib.compact xs ∧ e = .returned (.slice a ys.length cap) ∧ Inv B w0 φ0 φ w' ∧ Own B φ w' 3 a cap ys := by
  have hn := hn.out
  subst hn
  by_cases hx : xs = []
  · subst hx
    have hc := Tryz.slices_Compact_int_empty a cap w
    refine hc.mono ?_
    rintro e w' ⟨rfl, rfl⟩
    exact ⟨[], by rfl, rfl, hi, h⟩
  · obtain ⟨g, rfl, hbg, hgl⟩ := h.nilS hx
    obtain ⟨cells, hrow, hr⟩ := h.row
    have hcap := h.cap_le
    rw [repL_int] at hr
    subst hr
    have hcon := Tryz.slices_Compact_int g 0 cap xs w (own_holds1 (enc := Value.int .i64) (by skip; exact hrow)) (by skip; omega) (by skip; exact hcap.1)
    obtain ⟨C, hC⟩ : ∃ C, Lib.compact xs = C := ⟨_, rfl⟩
    have hCl : C.length ≤ xs.length := by rw [← hC]; exact Nat.le_trans (compact_len _) (by skip; exact Nat.le_refl _)
    rw [hC] at hcon
    skip
    refine hcon.mono ?_
    rintro e w' ⟨rfl, m, rfl⟩
    have hq := own_put1 (enc := Value.int .i64) (l := xs) (by skip; exact hrow) m #[] (l' := C ++ List.replicate (xs.length - C.length) 0) (by skip; rw [List.length_append, List.length_replicate]; omega)
    skip
    obtain ⟨q1, q2⟩ := hq
    rw [grow_nil] at q1 q2
    have q3 := own_cut1 q1 hCl
    have hr2 : List.take C.length ((C ++ List.replicate (xs.length - C.length) 0).map (Value.int .i64)) = C.map (Value.int .i64) := by
      rw [List.map_append, List.take_append_of_le_length (by rw [List.length_map]; exact Nat.le_refl _), List.take_of_length_le (by rw [List.length_map]; exact Nat.le_refl _)]
    rw [hr2] at q3
    refine ⟨C, by rw [hC], by rfl, hi.write hbg (h.free _ rfl) q2, ⟨⟨_, by skip; exact q3, (repL_int _ _ _).2 (by rfl)⟩, h.free⟩⟩
/-- maps.Keys. -/
theorem KeysS_any (mb : Option Nat) (W : World) : Calls Tryz.prog 145 #[.map mb] W fun e w' => e = .returned (.func (.func 202) #[] #[.pointer (some ⟨W.heap.size, 0, none⟩)]) ∧ w' = W.alloc (.cells #[.map mb] 187) :=
  (callsIn_wide (n := 5)).1 (AnyZ.keys_in Tryz.keysS Fence.wide 5 trivial rfl mb W)
theorem KeysI_any (mb : Option Nat) (W : World) : Calls Tryz.prog 203 #[.map mb] W fun e w' => e = .returned (.func (.func 252) #[] #[.pointer (some ⟨W.heap.size, 0, none⟩)]) ∧ w' = W.alloc (.cells #[.map mb] 241) :=
  (callsIn_wide (n := 5)).1 (AnyZI.keys_in Tryz.keysI Fence.wide 5 trivial rfl mb W)
theorem sortsS (m : Nat) : AnyZ.SortsIn Tryz.prog Tryz.sortedS_ren Fence.wide m :=
  ⟨fun blk off cap ss W hH hblk hsz => callsIn_wide.2 (AnyM.slices_Sort_string Tryz.sortS blk off cap ss W hH hblk hsz),
   fun p cap W => callsIn_wide.2 (AnyM.slices_Sort_string_none Tryz.sortS p cap W)⟩
theorem sortsI (m : Nat) : AnyZI.SortsIn Tryz.prog Tryz.sortedI_ren Fence.wide m :=
  ⟨fun blk off cap ss W hH hblk hsz => callsIn_wide.2 (AnyM.slices_Sort_int Tryz.sortI blk off cap ss W hH hblk hsz),
   fun p cap W => callsIn_wide.2 (AnyM.slices_Sort_int_none Tryz.sortI p cap W)⟩
theorem ownsRow_nilS {w : World} {B n cap : Nat} {E : TypeId} {v : Value} {cells : List Value} (h : w.ownsRow B E 1 v n cells) : ∃ a cap, v = .slice a n cap := by
  rcases h.2 with ⟨h2, h3⟩ | ⟨g, c, cur, hv, _⟩
  · subst h3; exact ⟨none, 0, h2⟩
  · exact ⟨_, _, hv⟩
set_option maxHeartbeats 1000000 in
theorem SortedS_any {α : Type} {vr : α → Value → Prop} {o : Obj} {M : List (ByteArray × α)} {w : World} {φ : Phi} {r : Nat} (hφ : Fz φ w) (h : MapO vr o M) (hb : w.heap[r]? = some o) (hl : M.length ≤ 20000) (hs : ∀ p ∈ M, p.1.size ≤ maxLen) {ns : List ByteArray} (hns : Hid ((risT (M.map (fun p => btT p.1))).map ofT = ns)) :
    Calls Tryz.prog 144 #[.func (.func 202) #[] #[.pointer (some ⟨w.heap.size, 0, none⟩)]] (w.alloc (.cells #[.map (some r)] 187)) (SlP ns φ (w.alloc (.cells #[.map (some r)] 187))) := by
  obtain ⟨D0, hown, hperm, hsz⟩ := h.owns_str (P := Tryz.prog) (k := 9) hb Tryz.underlying9 (by unfold maxLen; omega) hs
  have hmax : Maps.size D0 ≤ maxLen := by rw [hsz]; unfold maxLen; omega
  have hbytes : Maps.size D0 * 16 ≤ 140737488355328 := by rw [hsz]; omega
  have hbl := hown.lt
  have hseq : SeqGives Fence.wide 2 Tryz.prog 202 #[.pointer (some ⟨w.heap.size, 0, none⟩)] encStr (fun ss => ss.Perm (strKeys D0)) (Maps.size D0) (w.alloc (.cells #[.map (some r)] 187)) :=
    AnyZ.keys_gives (ρ := Tryz.keysS_ren) { Tryz.keysS with } Fence.wide _ trivial rfl (by omega) w.heap.size r M.length D0 _ (by simp) (by simp) (by
      obtain ⟨es, clock, hb, Ft, hs, hD⟩ := hown
      exact ⟨es, clock, (Below.heap_alloc _ _ r hbl).trans hb, Ft, hs, hD⟩)
  have hc := AnyZ.sorted_in Tryz.sortedS Fence.wide 5 trivial trivial trivial trivial rfl (by omega) (sortsS _) (enters_of Tryz.func96 (by kernel_rfl) rfl) 202 #[.pointer (some ⟨w.heap.size, 0, none⟩)] trivial (enters_of Tryz.func202 (by kernel_rfl) rfl) _ _ hmax hbytes _ hseq
  change CallsIn _ _ Tryz.prog 144 _ _ _ at hc
  refine ((callsIn_wide (n := 5)).1 hc).mono ?_
  rintro e w' ⟨v, ss, rfl, hS, hrow, hnil, hbel⟩
  have hnd : ss.Nodup := ((hS.trans hperm).nodup_iff).2 (by
    have := h.nodup
    rw [List.nodup_iff_pairwise_ne, List.pairwise_map] at this ⊢
    exact this.imp (fun {a b} q e => q (btT_inj e)))
  have hsort : (ss.mergeSort (fun x y => decide (x ≤ y))).map ofT = ns := by
    rw [← hns.out, sortT_perm (hS.trans hperm) hnd]
    rfl
  have hlen : ns.length = ss.length := by rw [← hsort, List.length_map, List.length_mergeSort]
  obtain ⟨a, cap, rfl⟩ := ownsRow_nilS (cap := 0) hrow
  have hown2 : Own (w.alloc (.cells #[.map (some r)] 187)).heap.size φ w' 9 a cap ns := by
    refine ⟨⟨_, by rw [hlen]; exact hrow, (repL_str _ _ _).2 (by rw [← hsort]; exact congrArg (List.map encStr) (map_btT _).symm)⟩, fun x hx => ?_⟩
    obtain ⟨q1, q2⟩ := hrow.lt x.block (by rw [hx]; rfl)
    exact (hφ.alloc _).new_none q1
  obtain ⟨φ', hle, hi, hsl, _⟩ := hown2.release ((Inv.start (hφ.alloc _)).callB hbel)
  exact ⟨a, cap, φ', by rw [hlen], hi, hsl⟩
set_option maxHeartbeats 1000000 in
theorem SortedI_any {α : Type} {vr : α → Value → Prop} {o : Obj} {M : List (Int × α)} {w : World} {φ : Phi} {r : Nat} (hφ : Fz φ w) (h : MapO vr o M) (hb : w.heap[r]? = some o) (hl : M.length ≤ 20000) (hs : ∀ p ∈ M, IsI64 p.1) {ns : List Int} (hns : Hid (risI (M.map (·.1)) = ns)) :
    Calls Tryz.prog 117 #[.func (.func 252) #[] #[.pointer (some ⟨w.heap.size, 0, none⟩)]] (w.alloc (.cells #[.map (some r)] 241)) (SlP ns φ (w.alloc (.cells #[.map (some r)] 241))) := by
  obtain ⟨D0, hown, hperm, hsz⟩ := h.owns_int (P := Tryz.prog) (k := 3) hb Tryz.underlying3 (by unfold maxLen; omega) hs
  have hmax : Maps.size D0 ≤ maxLen := by rw [hsz]; unfold maxLen; omega
  have hbytes : Maps.size D0 * 8 ≤ 140737488355328 := by rw [hsz]; omega
  have hbl := hown.lt
  have hseq : SeqGives Fence.wide 2 Tryz.prog 252 #[.pointer (some ⟨w.heap.size, 0, none⟩)] encZ (fun ss => ss.Perm (intKeys D0)) (Maps.size D0) (w.alloc (.cells #[.map (some r)] 241)) :=
    AnyZI.keys_gives (ρ := Tryz.keysI_ren) { Tryz.keysI with } Fence.wide _ trivial rfl (by omega) w.heap.size r M.length D0 _ (by simp) (by simp) (by
      obtain ⟨es, clock, hb, Ft, hs, hD⟩ := hown
      exact ⟨es, clock, (Below.heap_alloc _ _ r hbl).trans hb, Ft, hs, hD⟩)
  have hc := AnyZI.sorted_in Tryz.sortedI Fence.wide 5 trivial trivial trivial trivial rfl (by omega) (sortsI _) (enters_of Tryz.func62 (by kernel_rfl) rfl) 252 #[.pointer (some ⟨w.heap.size, 0, none⟩)] trivial (enters_of Tryz.func252 (by kernel_rfl) rfl) _ _ hmax hbytes _ hseq
  change CallsIn _ _ Tryz.prog 117 _ _ _ at hc
  refine ((callsIn_wide (n := 5)).1 hc).mono ?_
  rintro e w' ⟨v, ss, rfl, hS, hrow, hnil, hbel⟩
  have hnd : ss.Nodup := ((hS.trans hperm).nodup_iff).2 (by
    have := h.nodup
    rw [List.nodup_iff_pairwise_ne, List.pairwise_map] at this ⊢
    exact this)
  have hsort : ss.mergeSort (fun x y => decide (x ≤ y)) = ns := by
    rw [← hns.out, sortI_perm (hS.trans hperm) hnd]
  have hlen : ns.length = ss.length := by rw [← hsort, List.length_mergeSort]
  obtain ⟨a, cap, rfl⟩ := ownsRow_nilS (cap := 0) hrow
  have hown2 : Own (w.alloc (.cells #[.map (some r)] 241)).heap.size φ w' 3 a cap ns := by
    refine ⟨⟨_, by rw [hlen]; exact hrow, (repL_int _ _ _).2 (by rw [← hsort])⟩, fun x hx => ?_⟩
    obtain ⟨q1, q2⟩ := hrow.lt x.block (by rw [hx]; rfl)
    exact (hφ.alloc _).new_none q1
  obtain ⟨φ', hle, hi, hsl, _⟩ := hown2.release ((Inv.start (hφ.alloc _)).callB hbel)
  exact ⟨a, cap, φ', by rw [hlen], hi, hsl⟩
end Go.Proofs.YtnlhalnjbkpdnaaGreatDoor
