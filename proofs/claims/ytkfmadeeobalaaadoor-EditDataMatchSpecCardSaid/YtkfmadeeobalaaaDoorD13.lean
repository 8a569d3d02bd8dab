/- The walk of slices.Delete at data that the call owns. Conditions: none beyond what the claim form gives. -/
import Derived.Test.YtkfmadeeobalaaaDoorD12
import Derived.Deep.RegionLaw
import Derived.Lib.SliceRun
namespace Go.Proofs.YtkfmadeeobalaaaDoor
open Go.RowKit
set_option linter.unusedVariables false
/-- Cells of a row with others in their place. -/
def putL (cs : Array Value) : Nat → List Value → Array Value
  | _, [] => cs
  | o, v :: r => putL (cs.setIfInBounds o v) (o + 1) r
theorem putL_size : ∀ (vs : List Value) (o : Nat) (cs : Array Value), (putL cs o vs).size = cs.size
  | [], _, _ => rfl
  | v :: r, o, cs => by rw [putL, putL_size r]; simp
theorem putL_list : ∀ (vs : List Value) (o : Nat) (cs : Array Value), o + vs.length ≤ cs.size → (putL cs o vs).toList = cs.toList.take o ++ vs ++ cs.toList.drop (o + vs.length)
  | [], o, cs, _ => by rw [putL]; simp
  | v :: r, o, cs, h => by
    rw [List.length_cons] at h
    have hL : cs.toList.length = cs.size := Array.length_toList
    have hlt : (cs.toList.take o).length = o := by rw [List.length_take]; omega
    have e1 : (cs.toList.set o v).take (o + 1) = cs.toList.take o ++ [v] := by
      rw [List.set_eq_take_append_cons_drop, if_pos (by omega), List.take_append, hlt, List.take_of_length_le (by omega)]
      have e : o + 1 - o = 1 := by omega
      rw [e]; rfl
    have e2 : (cs.toList.set o v).drop (o + 1 + r.length) = cs.toList.drop (o + 1 + r.length) := by
      rw [List.set_eq_take_append_cons_drop, if_pos (by omega), List.drop_append, hlt, List.drop_of_length_le (by omega), List.nil_append]
      have e : o + 1 + r.length - o = r.length + 1 := by omega
      rw [e, List.drop_succ_cons, List.drop_drop]
    rw [putL, putL_list r (o + 1) _ (by simp; omega), Array.toList_setIfInBounds, e1, e2, List.length_cons]
    have e : o + (r.length + 1) = o + 1 + r.length := by omega
    rw [e]
    simp
theorem setCells_blk : ∀ (vs : List Value) (o : Nat) (w : World) {g : Nat} {cs : Array Value} {T : TypeId}, Blk w g cs T → Blk (w.setCells g o vs) g (putL cs o vs) T
  | [], _, _, _, _, _, h => h
  | v :: r, o, w, g, cs, T, h => setCells_blk r (o + 1) _ (h.set o v)
theorem setCells_inv : ∀ (vs : List Value) (o : Nat) {B : Nat} {w0 w : World} {φ0 φ : Phi} {g : Nat}, Inv B w0 φ0 φ w → B ≤ g → φ g = none → Inv B w0 φ0 φ (w.setCells g o vs)
  | [], _, _, _, _, _, _, _, h, _, _ => h
  | v :: r, o, B, w0, w, φ0, φ, g, h, hg, hf => setCells_inv r (o + 1) (h.setCell hg hf v) hg hf
theorem RepL.erase {α : Type} [Rep α] {φ : Phi} : ∀ {xs : List α} {c : List Value}, RepL φ xs c → ∀ i, i < xs.length → RepL φ (xs.eraseIdx i) (c.take (i * Rep.size α) ++ c.drop ((i + 1) * Rep.size α))
  | [], c, _, i, hi => by simp at hi
  | x :: xs, c, h, 0, _ => by
    obtain ⟨cs, rest, rfl, h1, h2⟩ := h
    have hl := Rep.len h1
    rw [List.eraseIdx_cons_zero, Nat.zero_mul, List.take_zero, List.nil_append, Nat.zero_add, Nat.one_mul, ← hl, List.drop_left]
    exact h2
  | x :: xs, c, h, i + 1, hi => by
    obtain ⟨cs, rest, rfl, h1, h2⟩ := h
    have hl := Rep.len h1
    rw [List.eraseIdx_cons_succ]
    refine ⟨cs, rest.take (i * Rep.size α) ++ rest.drop ((i + 1) * Rep.size α), ?_, h1, RepL.erase h2 i (by simpa using hi)⟩
    rw [List.take_append, List.drop_append, ← List.append_assoc]
    have e1 : (i + 1) * Rep.size α - cs.length = i * Rep.size α := by rw [hl, Nat.succ_mul]; omega
    have e2 : (i + 1 + 1) * Rep.size α - cs.length = (i + 1) * Rep.size α := by rw [hl, Nat.succ_mul (i + 1)]; omega
    rw [e1, e2, List.take_of_length_le (by rw [hl, Nat.succ_mul]; omega), List.drop_of_length_le (l := cs) (by rw [hl, Nat.succ_mul (i + 1), Nat.succ_mul]; omega), List.append_nil, List.append_assoc]
theorem zeroGiv (w : World) : (zeroValue 54).run Tryd.prog w = .ok (.agg #[.string ⟨#[]⟩, .slice none 0 0, .int .i64 0, .int .i64 0, .string ⟨#[]⟩, .slice none 0 0]) w := by kernel_rfl
/-- clear of one element. -/
theorem run_clear_giv (w : World) (ty : TypeId) (b o c : Nat) (hc : ∀ j, j < 6 → (w.cell? ⟨b, o + j, none⟩).isSome = true) (hf : ∀ j, j < 6 → w.frozen? ⟨b, o + j, none⟩ = false) :
    (Builtin.clear_ #[43] ty #[.slice (some ⟨b, o, none⟩) 1 c]).run Tryd.prog w = .ok (.tuple #[]) (w.setCells b o [.string ⟨#[]⟩, .slice none 0 0, .int .i64 0, .int .i64 0, .string ⟨#[]⟩, .slice none 0 0]) := by
  have hz : (Builtin.zeroCells (Value.cells (.agg #[.string ⟨#[]⟩, .slice none 0 0, .int .i64 0, .int .i64 0, .string ⟨#[]⟩, .slice none 0 0])) 1).toList = [.string ⟨#[]⟩, .slice none 0 0, .int .i64 0, .int .i64 0, .string ⟨#[]⟩, .slice none 0 0] := by kernel_rfl
  have hst := run_storeCells_cells (P := Tryd.prog) b o [.string ⟨#[]⟩, .slice none 0 0, .int .i64 0, .int .i64 0, .string ⟨#[]⟩, .slice none 0 0] 0 w (by simpa using hc) (by simpa using hf) (by intro v hv; simp at hv; rcases hv with rfl | rfl | rfl | rfl | rfl | rfl <;> rfl)
  simp only [Nat.add_zero] at hst
  simp [Builtin.clear_, run_underlying Tryd.underlying43, zeroGiv, hz, hst]
/-- A row of data that is owned, as its block. -/
theorem Own.givBlk {B : Nat} {φ : Phi} {w : World} {T : TypeId} {a : Option Addr} {cap : Nat} {xs : List Giv} (h : Own B φ w T a cap xs) (hne : xs ≠ []) : ∃ g cur, a = some ⟨g, 0, none⟩ ∧ B ≤ g ∧ φ g = none ∧ Blk w g cur T ∧ cur.size = cap * 6 ∧ xs.length ≤ cap ∧ cap ≤ maxLen ∧ RepL φ xs (cur.toList.take (xs.length * 6)) := by
  obtain ⟨cells, ⟨h1, h2⟩, hr⟩ := h.row
  rcases h2 with ⟨_, h2⟩ | ⟨g, c, cur, hv, hbg, hb, h3, h4, h5, h6⟩
  · exact absurd (List.eq_nil_of_length_eq_zero h2) hne
  · injection hv with e1 e2 e3
    subst e1
    subst e3
    exact ⟨g, cur, rfl, hbg, h.free _ rfl, hb, h5, h3, h4, by rw [show List.take (xs.length * 6) cur.toList = cells from h6]; exact hr⟩
theorem Own.ofBlk {B : Nat} {φ : Phi} {w : World} {T : TypeId} {cap g : Nat} {cur : Array Value} {xs : List Giv} (hB : B ≤ g) (hf : φ g = none) (hb : Blk w g cur T) (hs : cur.size = cap * 6) (hl : xs.length ≤ cap) (hm : cap ≤ maxLen) (hr : RepL φ xs (cur.toList.take (xs.length * 6))) : Own B φ w T (some ⟨g, 0, none⟩) cap xs :=
  ⟨⟨cur.toList.take (xs.length * 6), ⟨by
    have h1 : (cur.toList.take (xs.length * 6)).length = xs.length * 6 := by
      have h2 : cur.toList.length = cap * 6 := by rw [← hs]; simp
      rw [List.length_take, h2]
      have := Nat.mul_le_mul_right 6 hl
      omega
    exact h1, .inr ⟨g, cap, cur, rfl, hB, hb, hl, hm, hs, rfl⟩⟩, hr⟩, fun x hx => by cases hx; exact hf⟩
theorem Blk.isSome {w : World} {g : Nat} {cs : Array Value} {T : TypeId} (h : Blk w g cs T) {j : Nat} (hj : j < cs.size) : (w.cell? ⟨g, j, none⟩).isSome = true := by rw [h.cell j, Array.getElem?_eq_getElem hj]; rfl
set_option maxRecDepth 100000 in
set_option maxHeartbeats 4000000 in
theorem DeleteGiv_any {B : Nat} {w0 w : World} {φ0 φ : Phi} {a : Option Addr} {cap n i j : Nat} {xs : List Giv} (hj : Hid (j = i + 1)) (hi : Inv B w0 φ0 φ w) (ho : Own B φ w 54 a cap xs) (hn : Hid (xs.length = n)) (hin : i < n) :
    Calls Tryd.prog 49 #[.slice a n cap, .int .i64 (i : Int), .int .i64 (j : Int)] w (fun e w' => e = .returned (.slice a (n - 1) cap) ∧ Inv B w0 φ0 φ w' ∧ Own B φ w' 54 a cap (xs.eraseIdx i)) := by
  obtain ⟨g, cur, rfl, hB, hf, hb, hs, hl, hm, hr⟩ := ho.givBlk (fun e => by rw [e] at hn; have := hn.out; simp at this; omega)
  rw [hn.out] at hl hr
  have hL : cur.toList.length = cap * 6 := by rw [← hs]; simp
  have hn6 := Nat.mul_le_mul_right 6 hl
  unfold maxLen at hm
  -- what is moved
  obtain ⟨news, hnews⟩ : ∃ news, news = (cur.toList.take (n * 6)).drop ((i + 1) * 6) := ⟨_, rfl⟩
  have hlen : news.length = (n - (i + 1)) * 6 := by rw [hnews, List.length_drop, List.length_take, hL, Nat.sub_mul]; omega
  have hone : Hid (∀ u ∈ news, u.oneCell' = true) := Lib.hid (fun u hu => hr.one u (by rw [hnews] at hu; exact List.mem_of_mem_drop hu))
  have hbd : Blk w.drew g cur 54 := hb
  obtain ⟨A, hA, hsrc⟩ : ∃ A : Addr, (if cap = i + 1 then (some (⟨g, 0, none⟩ : Addr)) else some ⟨g, (i + 1) * 6, none⟩) = some A ∧ Hid (∀ t u, news[t]? = some u → w.drew.cell? (A.add t) = some u) := by
    by_cases h : cap = i + 1
    · refine ⟨⟨g, 0, none⟩, by simp [h], Lib.hid (fun t u hu => ?_)⟩
      have h0 : news.length = 0 := by rw [hlen]; omega
      rw [List.length_eq_zero_iff.1 h0] at hu
      simp at hu
    · refine ⟨⟨g, (i + 1) * 6, none⟩, by simp [h], Lib.hid (fun t u hu => ?_)⟩
      have ht := (List.getElem?_eq_some_iff.1 hu).1
      rw [hlen, Nat.sub_mul] at ht
      rw [hnews, List.getElem?_drop, List.getElem?_take, if_pos (by omega)] at hu
      have e : (⟨g, (i + 1) * 6, none⟩ : Addr).add t = ⟨g, (i + 1) * 6 + t, none⟩ := by simp [Addr.add]
      rw [e, hbd.cell]
      rw [← hu]
      simp
  have hspare : Hid (∀ t, t < news.length → (w.drew.cell? ⟨g, 0 + i * 6 + t, none⟩).isSome = true ∧ w.drew.frozen? ⟨g, 0 + i * 6 + t, none⟩ = false) := Lib.hid (fun t ht => by
    rw [hlen, Nat.sub_mul] at ht
    exact ⟨hbd.isSome (by rw [hs]; omega), hbd.frz _⟩)
  obtain ⟨W1, hW1⟩ : ∃ W1, W1 = w.drew.setCells g (0 + i * 6) news := ⟨_, rfl⟩
  have hb1 : Blk W1 g (putL cur (0 + i * 6) news) 54 := by rw [hW1]; exact setCells_blk _ _ _ hbd
  have hi1 : Inv B w0 φ0 φ W1 := by rw [hW1]; exact setCells_inv _ _ hi.drew hB hf
  have hjj := hj.out
  obtain ⟨zs, hzs⟩ : ∃ zs : List Value, zs = [.string ⟨#[]⟩, .slice none 0 0, .int .i64 0, .int .i64 0, .string ⟨#[]⟩, .slice none 0 0] := ⟨_, rfl⟩
  have ez : n - (i + (n - j)) = 1 := by omega
  have hsz : (putL cur (0 + i * 6) news).size = cap * 6 := by rw [putL_size, hs]
  have hcl : ∀ ty, (Builtin.clear_ #[43] ty #[.slice (some ⟨g, (i + (n - j)) * 6, none⟩) 1 (cap - (i + (n - j)))]).run Tryd.prog W1 = .ok (.tuple #[]) (W1.setCells g ((i + (n - j)) * 6) zs) := by
    intro ty

    rw [hzs]
    exact run_clear_giv W1 ty g _ _ (fun t ht => hb1.isSome (by rw [hsz]; omega)) (fun t _ => hb1.frz _)
  have hz6H : Hid (zs.length = 6) := Lib.hid (by rw [hzs]; rfl)
  have hW : Hid (W1 = w.drew.setCells g (0 + i * 6) news) := Lib.hid hW1
  have HB1 := Lib.hid hb1
  have HI1 := Lib.hid hi1
  have hnews2 := Lib.hid hnews
  have hlen2 : Hid (news.length = (n - j) * 6) := Lib.hid (by rw [hlen, hjj])
  rw [← hjj] at hA
  have hic : i ≤ cap := by omega
  have hjc : j ≤ cap := by omega
  have hij : i ≤ j := by omega
  have hjn : j ≤ n := by omega
  have hne : ((i : Int) == (j : Int)) = false := by simp; omega
  have hrH := Lib.hid hr
  have hsH := Lib.hid hs
  have hLH := Lib.hid hL
  obtain ⟨i0, hi0, hz0, hz1, hz2⟩ := info_parts slGv.info
  have hnc : n ≤ cap := hl
  have hin2 : i < j := by omega
  clear hzs hW1 hb1 hi1 hb hbd hr hs hL hlen hnews hi ho hsz hn6 hl hjj
  go_enter Tryd.func49, Tryd.ntmps49
  go_wp2
  go_region_law (refine step_append_room rfl (.tmp 22) (.tmp 25) 43 rfl 54 i0 6 Tryd.underlying43 hi0 hz1 g 0 i cap (by simp [Act.eval, Act.put]) A (n - j) (cap - j) news (by simp [Act.eval, Act.put]) hlen2.out hsrc.out hone.out (by omega) hspare.out ?_; rw [← hW.out])
  go_wp2
  go_ret
  have hle : (xs.eraseIdx i).length = n - 1 := by rw [List.length_eraseIdx, hn.out, if_pos hin]
  have hL := hLH.out
  have hln := hlen2.out
  have hsz := hsH.out
  have hmul : (i + (n - j)) * 6 = i * 6 + (n - j) * 6 := Nat.add_mul _ _ _
  have e1 := putL_list news (0 + i * 6) cur (by rw [hln, hsz]; omega)
  have hz6 := hz6H.out
  have e2 := putL_list zs ((i + (n - j)) * 6) (putL cur (0 + i * 6) news) (by rw [putL_size, hsz, hz6]; omega)
  refine ⟨by rw [show n - 1 = i + (n - j) by omega]; rfl, setCells_inv _ _ HI1.out hB hf, Own.ofBlk hB hf (setCells_blk _ _ _ HB1.out) (by rw [putL_size, putL_size, hsz]) (by rw [hle]; omega) (by unfold maxLen; omega) ?_⟩
  rw [hle, e2]
  have hA1 : (List.take (0 + i * 6) cur.toList).length = i * 6 := by rw [List.length_take, hL]; omega
  have e3 : List.take ((i + (n - j)) * 6) (putL cur (0 + i * 6) news).toList = List.take (0 + i * 6) cur.toList ++ news := by
    rw [e1, List.take_append, List.take_of_length_le (by rw [List.length_append, hA1, hln]; omega), List.length_append, hA1, hln]
    have e : (i + (n - j)) * 6 - (i * 6 + (n - j) * 6) = 0 := by omega
    rw [e, List.take_zero, List.append_nil]
  have hk : (n - 1) * 6 = (i + (n - j)) * 6 := by rw [show n - 1 = i + (n - j) by omega]
  rw [hk, e3, List.append_assoc, List.take_append, List.take_of_length_le (by rw [List.length_append, hA1, hln]; omega), List.length_append, hA1, hln]
  have e : (i + (n - j)) * 6 - (i * 6 + (n - j) * 6) = 0 := by omega
  rw [e, List.take_zero, List.append_nil]
  have hrr := RepL.erase hrH.out i (by rw [hn.out]; exact hin)
  have e5 : List.take (i * 6) (List.take (n * 6) cur.toList) = List.take (0 + i * 6) cur.toList := by rw [List.take_take]; congr 1; omega
  have e6 : List.take (i * Rep.size Giv) (List.take (n * 6) cur.toList) ++ List.drop ((i + 1) * Rep.size Giv) (List.take (n * 6) cur.toList) = List.take (0 + i * 6) cur.toList ++ news := by
    show List.take (i * 6) (List.take (n * 6) cur.toList) ++ List.drop ((i + 1) * 6) (List.take (n * 6) cur.toList) = _
    rw [e5, hnews2.out]
  rw [e6] at hrr
  exact hrr
end Go.Proofs.YtkfmadeeobalaaaDoor
