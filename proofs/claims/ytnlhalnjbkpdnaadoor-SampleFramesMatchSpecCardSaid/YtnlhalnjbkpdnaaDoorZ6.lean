/- The walks of names, of, clusters, sizes and total, the reference's side. Conditions: none beyond what each states. -/
import Derived.Test.YtnlhalnjbkpdnaaDoorZ5
namespace Go.Proofs.YtnlhalnjbkpdnaaDoor
open Go.RowKit Go.Sort
set_option linter.unusedVariables false
set_option linter.unusedSimpArgs false
theorem slSt : SliceTy Tryd.prog 38 9 (.string ⟨#[]⟩) (Rep.size ByteArray) 16 := ⟨Tryd.underlying38, by kernel_rfl, rfl, by decide, by decide⟩
theorem slUn : SliceTy Tryd.prog 22 45 (.agg #[.int .i64 0, .string ⟨#[]⟩, .int .i64 0, .int .i64 0]) (Rep.size Unt) 40 := ⟨Tryd.underlying22, by kernel_rfl, rfl, by decide, by decide⟩
set_option maxHeartbeats 1000000 in
theorem Rsizes_any {w : World} {a : Option Addr} {c n : Nat} {l : List Unt} {φ : Phi} (hφ : Fz φ w) (s : SlV φ a c l) (hn : Hid (l.length = n)) (hl : n ≤ 5000) :
    Calls Tryd.prog 14 #[.slice a n c] w (SlP (l.map (fun u => u.2.2.2)) φ w) := by
  have hS0 : Hid (OwSt w φ 3 none 0 ([] : List Int) w) := Lib.hid ⟨Inv.start hφ, Own.nil _ _ _ _⟩
  go_enter Tryd.func14, Tryd.ntmps14
  go_wp2
  go_loopw [3, 8] (fun o i wr => ∃ (k : Nat) (ao : Option Addr) (co : Nat) (xs : List Int), k ≤ n ∧ i = .int .i64 k ∧ o = .slice ao xs.length co ∧ Hid ((l.take k).map (fun u => u.2.2.2) = xs) ∧ Hid (OwSt w φ 3 ao co xs wr)) (fun _ i _ => n - (intOf i).toNat)
  case atStart => exact ⟨0, none, 0, [], Nat.zero_le _, rfl, rfl, Lib.hid rfl, hS0⟩
  case round =>
    clear hS0
    obtain ⟨k, ao, co, xs, hk, rfl, rfl, hxs, hS⟩ := hrel
    have hxl : xs.length ≤ 5000 := by rw [← hxs.out, List.length_map, List.length_take]; omega
    by_cases hlt : k < n
    · obtain ⟨b, off, rfl, f⟩ := s.untD hn hlt
      obtain ⟨hb, c1, c2, c3, c4⟩ := f k hlt wr hS.out.inv.fz
      have htk := Lib.hid (take_snocD unt0 l k n hn.out hlt)
      clear f
      generalize hU : l.getD k unt0 = U at *
      obtain ⟨u1, u2, u3, u4⟩ := U
      dsimp only at c1 c2 c3 c4
      have hnx : Hid ((l.take (k + 1)).map (fun u => u.2.2.2) = xs ++ [u4]) := Lib.hid (by rw [htk.out, List.map_append, hxs.out]; rfl)
      have hS2 := Lib.hid (OwSt.alloc hS.out (.cells #[.int .i64 u1, .string u2, .int .i64 u3, .int .i64 u4] 45))
      clear hU htk hS
      have hK := Lib.hid (Blk.new wr #[.int .i64 u1, .string u2, .int .i64 u3, .int .i64 u4] 45)
      go_upto_region 5 with (fail)
      clear c1 c2 c3 c4 hb
      generalize wr.alloc (.cells #[.int .i64 u1, .string u2, .int .i64 u3, .int .i64 u4] 45) = wj at *
      generalize wr.heap.size = bj at *
      have y0 : wj.cell? ⟨bj, 0, none⟩ = some (.int .i64 u1) := hK.out.cell 0
      have y1 : wj.cell? ⟨bj, 1, none⟩ = some (.string u2) := hK.out.cell 1
      have y2 : wj.cell? ⟨bj, 2, none⟩ = some (.int .i64 u3) := hK.out.cell 2
      have y3 : wj.cell? ⟨bj, 3, none⟩ = some (.int .i64 u4) := hK.out.cell 3
      have hin := hS2.out.inv
      have hon := hS2.out.own
      go_wp2_with (at_builtin; refine wpList_app1 (α := Int) rfl _ _ 41 rfl slI hin ao co _ hon _ _ (u4) rfl rfl 1 rfl (by omega) ?_; intro a2 cap2 w5 hi5 hown5 hgr)
      have hS5 : Hid (OwSt w φ 3 a2 cap2 (xs ++ [u4]) w5) := Lib.hid ⟨hi5, hown5⟩
      clear hi5 hown5 hgr hin hon hS2
      go_roundw
      case rel => exact ⟨k + 1, a2, cap2, xs ++ [u4], by omega, by go_num, by simp, hnx, hS5⟩
      case measure => (simp [intOf] <;> omega)
    · obtain rfl : n = k := by omega
      have ex : l.take n = l := by rw [← hn.out, List.take_length]
      rw [ex] at hxs
      have hin := hS.out.inv
      have hon := hS.out.own
      clear hS ex
      go_wp2
      go_ret
      obtain ⟨φ', hle, hi, hs, _⟩ := hon.release hin
      exact ⟨ao, co, φ', by rw [hxs.out]; rfl, hi, by rw [hxs.out]; exact hs⟩
set_option maxHeartbeats 1000000 in
theorem Rnames_any {w : World} {a : Option Addr} {c n : Nat} {l : List Unt} {φ : Phi} (hφ : Fz φ w) (s : SlV φ a c l) (hn : Hid (l.length = n)) (hl : n ≤ 5000) :
    Calls Tryd.prog 10 #[.slice a n c] w (SlP (nmsL l) φ w) := by
  have hS0 : Hid (OwSt w φ 9 none 0 ([] : List ByteArray) w) := Lib.hid ⟨Inv.start hφ, Own.nil _ _ _ _⟩
  go_enter Tryd.func10, Tryd.ntmps10
  go_wp2
  go_loopw [3, 8] (fun o i wr => ∃ (k : Nat) (ao : Option Addr) (co : Nat) (xs : List ByteArray), k ≤ n ∧ i = .int .i64 k ∧ o = .slice ao xs.length co ∧ Hid ((l.take k).map (fun u => u.2.1) = xs) ∧ Hid (OwSt w φ 9 ao co xs wr)) (fun _ i _ => n - (intOf i).toNat)
  case atStart => exact ⟨0, none, 0, [], Nat.zero_le _, rfl, rfl, Lib.hid rfl, hS0⟩
  case round =>
    clear hS0
    obtain ⟨k, ao, co, xs, hk, rfl, rfl, hxs, hS⟩ := hrel
    have hxl : xs.length ≤ 5000 := by rw [← hxs.out, List.length_map, List.length_take]; omega
    by_cases hlt : k < n
    · obtain ⟨b, off, rfl, f⟩ := s.untD hn hlt
      obtain ⟨hb, c1, c2, c3, c4⟩ := f k hlt wr hS.out.inv.fz
      have htk := Lib.hid (take_snocD unt0 l k n hn.out hlt)
      clear f
      generalize hU : l.getD k unt0 = U at *
      obtain ⟨u1, u2, u3, u4⟩ := U
      dsimp only at c1 c2 c3 c4
      have hnx : Hid ((l.take (k + 1)).map (fun u => u.2.1) = xs ++ [u2]) := Lib.hid (by rw [htk.out, List.map_append, hxs.out]; rfl)
      have hS2 := Lib.hid (OwSt.alloc hS.out (.cells #[.int .i64 u1, .string u2, .int .i64 u3, .int .i64 u4] 45))
      clear hU htk hS
      have hK := Lib.hid (Blk.new wr #[.int .i64 u1, .string u2, .int .i64 u3, .int .i64 u4] 45)
      go_upto_region 5 with (fail)
      clear c1 c2 c3 c4 hb
      generalize wr.alloc (.cells #[.int .i64 u1, .string u2, .int .i64 u3, .int .i64 u4] 45) = wj at *
      generalize wr.heap.size = bj at *
      have y0 : wj.cell? ⟨bj, 0, none⟩ = some (.int .i64 u1) := hK.out.cell 0
      have y1 : wj.cell? ⟨bj, 1, none⟩ = some (.string u2) := hK.out.cell 1
      have y2 : wj.cell? ⟨bj, 2, none⟩ = some (.int .i64 u3) := hK.out.cell 2
      have y3 : wj.cell? ⟨bj, 3, none⟩ = some (.int .i64 u4) := hK.out.cell 3
      have hin := hS2.out.inv
      have hon := hS2.out.own
      go_wp2_with (at_builtin; refine wpList_app1 (α := ByteArray) rfl _ _ 38 rfl slSt hin ao co _ hon _ _ (u2) rfl rfl 1 rfl (by omega) ?_; intro a2 cap2 w5 hi5 hown5 hgr)
      have hS5 : Hid (OwSt w φ 9 a2 cap2 (xs ++ [u2]) w5) := Lib.hid ⟨hi5, hown5⟩
      clear hi5 hown5 hgr hin hon hS2
      go_roundw
      case rel => exact ⟨k + 1, a2, cap2, xs ++ [u2], by omega, by go_num, by simp, hnx, hS5⟩
      case measure => (simp [intOf] <;> omega)
    · obtain rfl : n = k := by omega
      have ex : l.take n = l := by rw [← hn.out, List.take_length]
      rw [ex] at hxs
      have hin := hS.out.inv
      have hon := hS.out.own
      clear hS ex
      go_wp2_with (first
        | (go_at_call 21; (with_reducible refine (SSort_own hin hon (Lib.hid rfl) (by omega)).mono ?_); rintro e w6 ⟨rfl, ys, hys, hyl, hi6, ho6, hg6⟩; have HYS := Lib.hid hys; clear hys)
        | (go_at_call 22; (with_reducible refine (SCompact_own hi6 ho6 (Lib.hid hyl) (by omega)).mono ?_); rintro e w7 ⟨zs, hzs, rfl, hi7, ho7⟩; have HZS := Lib.hid hzs; clear hzs)
        | fail)
      go_ret
      obtain ⟨φ', hle, hi, hs, _⟩ := ho7.release hi7
      have e : nmsL l = zs := by
        rw [HZS.out, HYS.out, map_btT, sortT_compact, ← hxs.out, List.map_map]
        rfl
      exact ⟨ao, co, φ', by rw [e]; rfl, hi, by rw [e]; exact hs⟩
set_option maxHeartbeats 1000000 in
theorem Rclusters_any {w : World} {a : Option Addr} {c n : Nat} {l : List Unt} {φ : Phi} (hφ : Fz φ w) (s : SlV φ a c l) (hn : Hid (l.length = n)) (hl : n ≤ 5000) :
    Calls Tryd.prog 12 #[.slice a n c] w (SlP (cnsL l) φ w) := by
  have hS0 : Hid (OwSt w φ 3 none 0 ([] : List Int) w) := Lib.hid ⟨Inv.start hφ, Own.nil _ _ _ _⟩
  go_enter Tryd.func12, Tryd.ntmps12
  go_wp2
  go_loopw [3, 8] (fun o i wr => ∃ (k : Nat) (ao : Option Addr) (co : Nat) (xs : List Int), k ≤ n ∧ i = .int .i64 k ∧ o = .slice ao xs.length co ∧ Hid ((l.take k).map (fun u => u.2.2.1) = xs) ∧ Hid (OwSt w φ 3 ao co xs wr)) (fun _ i _ => n - (intOf i).toNat)
  case atStart => exact ⟨0, none, 0, [], Nat.zero_le _, rfl, rfl, Lib.hid rfl, hS0⟩
  case round =>
    clear hS0
    obtain ⟨k, ao, co, xs, hk, rfl, rfl, hxs, hS⟩ := hrel
    have hxl : xs.length ≤ 5000 := by rw [← hxs.out, List.length_map, List.length_take]; omega
    by_cases hlt : k < n
    · obtain ⟨b, off, rfl, f⟩ := s.untD hn hlt
      obtain ⟨hb, c1, c2, c3, c4⟩ := f k hlt wr hS.out.inv.fz
      have htk := Lib.hid (take_snocD unt0 l k n hn.out hlt)
      clear f
      generalize hU : l.getD k unt0 = U at *
      obtain ⟨u1, u2, u3, u4⟩ := U
      dsimp only at c1 c2 c3 c4
      have hnx : Hid ((l.take (k + 1)).map (fun u => u.2.2.1) = xs ++ [u3]) := Lib.hid (by rw [htk.out, List.map_append, hxs.out]; rfl)
      have hS2 := Lib.hid (OwSt.alloc hS.out (.cells #[.int .i64 u1, .string u2, .int .i64 u3, .int .i64 u4] 45))
      clear hU htk hS
      have hK := Lib.hid (Blk.new wr #[.int .i64 u1, .string u2, .int .i64 u3, .int .i64 u4] 45)
      go_upto_region 5 with (fail)
      clear c1 c2 c3 c4 hb
      generalize wr.alloc (.cells #[.int .i64 u1, .string u2, .int .i64 u3, .int .i64 u4] 45) = wj at *
      generalize wr.heap.size = bj at *
      have y0 : wj.cell? ⟨bj, 0, none⟩ = some (.int .i64 u1) := hK.out.cell 0
      have y1 : wj.cell? ⟨bj, 1, none⟩ = some (.string u2) := hK.out.cell 1
      have y2 : wj.cell? ⟨bj, 2, none⟩ = some (.int .i64 u3) := hK.out.cell 2
      have y3 : wj.cell? ⟨bj, 3, none⟩ = some (.int .i64 u4) := hK.out.cell 3
      have hin := hS2.out.inv
      have hon := hS2.out.own
      go_wp2_with (at_builtin; refine wpList_app1 (α := Int) rfl _ _ 41 rfl slI hin ao co _ hon _ _ (u3) rfl rfl 1 rfl (by omega) ?_; intro a2 cap2 w5 hi5 hown5 hgr)
      have hS5 : Hid (OwSt w φ 3 a2 cap2 (xs ++ [u3]) w5) := Lib.hid ⟨hi5, hown5⟩
      clear hi5 hown5 hgr hin hon hS2
      go_roundw
      case rel => exact ⟨k + 1, a2, cap2, xs ++ [u3], by omega, by go_num, by simp, hnx, hS5⟩
      case measure => (simp [intOf] <;> omega)
    · obtain rfl : n = k := by omega
      have ex : l.take n = l := by rw [← hn.out, List.take_length]
      rw [ex] at hxs
      have hin := hS.out.inv
      have hon := hS.out.own
      clear hS ex
      go_wp2_with (first
        | (go_at_call 23; (with_reducible refine (ISort_own hin hon (Lib.hid rfl) (by omega)).mono ?_); rintro e w6 ⟨rfl, ys, hys, hyl, hi6, ho6, hg6⟩; have HYS := Lib.hid hys; clear hys)
        | (go_at_call 24; (with_reducible refine (ICompact_own hi6 ho6 (Lib.hid hyl) (by omega)).mono ?_); rintro e w7 ⟨zs, hzs, rfl, hi7, ho7⟩; have HZS := Lib.hid hzs; clear hzs)
        | fail)
      go_ret
      obtain ⟨φ', hle, hi, hs, _⟩ := ho7.release hi7
      have e : cnsL l = zs := by
        rw [HZS.out, HYS.out, sortI_compact, ← hxs.out]
        rfl
      exact ⟨ao, co, φ', by rw [e]; rfl, hi, by rw [e]; exact hs⟩
set_option maxHeartbeats 1000000 in
theorem Rof_any {w : World} {a : Option Addr} {c n : Nat} {l : List Unt} {φ : Phi} (hφ : Fz φ w) (s : SlV φ a c l) (hn : Hid (l.length = n)) (hl : n ≤ 5000) (z : ByteArray) :
    Calls Tryd.prog 11 #[.slice a n c, .string z] w (SlP (stU l z) φ w) := by
  have hS0 : Hid (OwSt w φ 45 none 0 (stU (l.take 0) z) w) := Lib.hid ⟨Inv.start hφ, Own.nil _ _ _ _⟩
  go_enter Tryd.func11, Tryd.ntmps11
  go_wp2
  go_loopw [5, 10] (fun o i wr => ∃ (k : Nat) (ao : Option Addr) (co : Nat) (xs : List Unt), k ≤ n ∧ i = .int .i64 k ∧ o = .slice ao xs.length co ∧ Hid (stU (l.take k) z = xs) ∧ Hid (OwSt w φ 45 ao co xs wr)) (fun _ i _ => n - (intOf i).toNat)
  case atStart => exact ⟨0, none, 0, [], Nat.zero_le _, rfl, rfl, Lib.hid rfl, hS0⟩
  case round =>
    clear hS0
    obtain ⟨k, ao, co, xs, hk, rfl, rfl, hxs, hS⟩ := hrel
    have hxl : xs.length ≤ 5000 := by rw [← hxs.out]; have := stU_len (l.take k) z; rw [List.length_take] at this; omega
    by_cases hlt : k < n
    · obtain ⟨b, off, rfl, f⟩ := s.untD hn hlt
      obtain ⟨hb, c1, c2, c3, c4⟩ := f k hlt wr hS.out.inv.fz
      have htk := Lib.hid (take_snocD unt0 l k n hn.out hlt)
      clear f
      generalize hU : l.getD k unt0 = U at *
      obtain ⟨u1, u2, u3, u4⟩ := U
      dsimp only at c1 c2 c3 c4
      have hnx : Hid (stU (l.take (k + 1)) z = if u2 = z then xs ++ [(u1, u2, u3, u4)] else xs) := Lib.hid (by rw [htk.out, stU_snoc, hxs.out])
      have hS2 := Lib.hid (OwSt.alloc hS.out (.cells #[.int .i64 u1, .string u2, .int .i64 u3, .int .i64 u4] 45))
      clear hU htk hS
      have hK := Lib.hid (Blk.new wr #[.int .i64 u1, .string u2, .int .i64 u3, .int .i64 u4] 45)
      go_upto_region 5 with (fail)
      clear c1 c2 c3 c4 hb
      generalize wr.alloc (.cells #[.int .i64 u1, .string u2, .int .i64 u3, .int .i64 u4] 45) = wj at *
      generalize wr.heap.size = bj at *
      have y0 : wj.cell? ⟨bj, 0, none⟩ = some (.int .i64 u1) := hK.out.cell 0
      have y1 : wj.cell? ⟨bj, 1, none⟩ = some (.string u2) := hK.out.cell 1
      have y2 : wj.cell? ⟨bj, 2, none⟩ = some (.int .i64 u3) := hK.out.cell 2
      have y3 : wj.cell? ⟨bj, 3, none⟩ = some (.int .i64 u4) := hK.out.cell 3
      by_cases hz : u2 = z
      · rw [if_pos hz] at hnx
        have hq := str_eq_t hz
        have hin := hS2.out.inv
        have hon := hS2.out.own
        have hrp := fun φ => rep_unt φ (u1, u2, u3, u4)
        have HRP := Lib.hid hrp
        clear hrp hz
        go_wp2_with (at_builtin; refine wpList_app1 (α := Unt) rfl _ _ 22 rfl slUn hin ao co _ hon _ _ (u1, u2, u3, u4) (HRP.out _) rfl 1 rfl (by omega) ?_; intro a2 cap2 w5 hi5 hown5 hgr)
        have hS5 : Hid (OwSt w φ 45 a2 cap2 (xs ++ [(u1, u2, u3, u4)]) w5) := Lib.hid ⟨hi5, hown5⟩
        clear hi5 hown5 hgr hin hon hS2
        go_roundw
        case rel => exact ⟨k + 1, a2, cap2, xs ++ [(u1, u2, u3, u4)], by omega, by go_num, by simp, hnx, hS5⟩
        case measure => (simp [intOf] <;> omega)
      · rw [if_neg hz] at hnx
        have hq := str_eq_f hz
        clear hz
        go_wp2
        go_roundw
        case rel => exact ⟨k + 1, ao, co, xs, by omega, by go_num, rfl, hnx, hS2⟩
        case measure => (simp [intOf] <;> omega)
    · obtain rfl : n = k := by omega
      have ex : l.take n = l := by rw [← hn.out, List.take_length]
      rw [ex] at hxs
      go_wp2
      go_ret
      obtain ⟨φ', hle, hi, hs, _⟩ := hS.out.own.release hS.out.inv
      exact ⟨ao, co, φ', by rw [hxs.out]; rfl, hi, by rw [hxs.out]; exact hs⟩
theorem Rtotal_any {w : World} {a : Option Addr} {c n : Nat} {xs : List Int} {φ : Phi} (hφ : Fz φ w) (s : SlV φ a c xs) (hn : Hid (xs.length = n)) (hl : n ≤ 5000) (hb : Hid (∀ k, k ≤ n → 0 ≤ (xs.take k).sum ∧ (xs.take k).sum ≤ 5000000000)) :
    Calls Tryd.prog 13 #[.slice a n c] w fun e w' => e = .returned (.int .i64 xs.sum) ∧ w = w' := by
  go_enter Tryd.func13, Tryd.ntmps13
  go_wp2
  go_loop [3, 8] (fun o i => ∃ (k : Nat), k ≤ n ∧ i = .int .i64 k ∧ o = .int .i64 (xs.take k).sum) (fun _ i => n - (intOf i).toNat)
  case atStart => exact ⟨0, Nat.zero_le _, rfl, rfl⟩
  case round =>
    obtain ⟨k, hk, rfl, rfl⟩ := hrel
    by_cases hlt : k < n
    · obtain ⟨b, off, rfl, f⟩ := s.intsD hn hlt
      obtain ⟨hb0, c1⟩ := f k hlt w hφ
      have h1 := hb.out k hk
      have h2 := hb.out (k + 1) (by omega)
      have hst : Hid ((xs.take (k + 1)).sum = (xs.take k).sum + xs.getD k 0) := Lib.hid (by rw [take_snocD 0 xs k n hn.out hlt, List.sum_append]; simp)
      rw [hst.out] at h2
      clear f
      generalize (xs.take k).sum = q at *
      generalize xs.getD k 0 = x at *
      have hwr : IntKind.i64.wrap (q + x) = q + x := IntWalk.i64_in _ (by omega)
      go_wp2
      go_round
      case rel => exact ⟨k + 1, by omega, by go_num, by rw [hst.out]⟩
      case measure => (simp [intOf] <;> omega)
    · obtain rfl : n = k := by omega
      have ex : xs.take n = xs := by rw [← hn.out, List.take_length]
      rw [ex]
      go_wp2
      go_ret
      exact ⟨rfl, rfl⟩
end Go.Proofs.YtnlhalnjbkpdnaaDoor
