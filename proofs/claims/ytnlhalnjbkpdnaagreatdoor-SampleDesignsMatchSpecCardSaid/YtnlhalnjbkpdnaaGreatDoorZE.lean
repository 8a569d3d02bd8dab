/- The walks of names, of, clusters, sizes and total, the reference's side. The walk of the reference's IsName, over the library's Fields by its contract. Conditions: the library's table of blanks reads as it was laid (the row's own condition). The walk of CheckFrame, the reference's side. Conditions: the library's table of blanks reads as it was laid; texts of a length that a form reaches. The walk of Strata, the reference's side. Conditions: the library's table of blanks reads as it was laid; texts of a length that a form reaches. Conditions: none beyond what the claim form gives. -/
import Derived.Test.YtnlhalnjbkpdnaaGreatDoorZB
import Derived.Test.YtnlhalnjbkpdnaaGreatDoorLB
import Derived.Test.YtnlhalnjbkpdnaaGreatDoorSh4
import Derived.OwnWalk
namespace Go.Proofs.YtnlhalnjbkpdnaaGreatDoor
open Go.RowKit Go.Sort
set_option linter.unusedVariables false
set_option linter.unusedSimpArgs false
theorem slSt : SliceTy Tryz.prog 78 9 (.string ⟨#[]⟩) (Rep.size ByteArray) 16 := ⟨Tryz.underlying78, by kernel_rfl, rfl, by decide, by decide⟩
theorem slUn : SliceTy Tryz.prog 25 64 (.agg #[.int .i64 0, .string ⟨#[]⟩, .int .i64 0, .int .i64 0]) (Rep.size Unt) 40 := ⟨Tryz.underlying25, by kernel_rfl, rfl, by decide, by decide⟩
set_option maxHeartbeats 1000000 in
theorem Rsizes_any {w : World} {a : Option Addr} {c n : Nat} {l : List Unt} {φ : Phi} (hφ : Fz φ w) (s : SlV φ a c l) (hn : Hid (l.length = n)) (hl : n ≤ 5000) :
    Calls Tryz.prog 91 #[.slice a n c] w (SlP (l.map (fun u => u.2.2.2)) φ w) := by
  have hS0 : Hid (OwSt w φ 3 none 0 ([] : List Int) w) := Lib.hid ⟨Inv.start hφ, Own.nil _ _ _ _⟩
  go_enter Tryz.func91, Tryz.ntmps91
  go_wp2
  go_loopw [3, 8] (fun o i wr => ∃ (k : Nat) (ao : Option Addr) (co : Nat) (xs : List Int), k ≤ n ∧ i = .int .i64 k ∧ o = .slice ao xs.length co ∧ Hid ((l.take k).map (fun u => u.2.2.2) = xs) ∧ Hid (OwSt w φ 3 ao co xs wr)) (fun _ i _ => n - (intOf i).toNat)
  case atStart => exact ⟨0, none, 0, [], Nat.zero_le _, rfl, rfl, Lib.hid rfl, hS0⟩
  case round =>
    clear hS0
    obtain ⟨k, ao, co, xs, hk, rfl, rfl, hxs, hS⟩ := hrel
    have hxl : xs.length ≤ 5000 := by rw [← hxs.out, List.length_map, List.length_take]; omega
    by_cases hlt : k < n
    · obtain ⟨b, off, rfl, f⟩ := s.untD hn hlt
      obtain ⟨hb, c1, c2, c3, c4⟩ := f k hlt wr hS.out.inv.fz
      have htk := Lib.hid (take_snocD unt0 l k n hn.out hlt)
      clear f
      generalize hU : l.getD k unt0 = U at *
      obtain ⟨u1, u2, u3, u4⟩ := U
      dsimp only at c1 c2 c3 c4
      have hnx : Hid ((l.take (k + 1)).map (fun u => u.2.2.2) = xs ++ [u4]) := Lib.hid (by rw [htk.out, List.map_append, hxs.out]; rfl)
      have hS2 := Lib.hid (OwSt.alloc hS.out (.cells #[.int .i64 u1, .string u2, .int .i64 u3, .int .i64 u4] 64))
      clear hU htk hS
      have hK := Lib.hid (Blk.new wr #[.int .i64 u1, .string u2, .int .i64 u3, .int .i64 u4] 64)
      go_upto_region 5 with (fail)
      clear c1 c2 c3 c4 hb
      generalize wr.alloc (.cells #[.int .i64 u1, .string u2, .int .i64 u3, .int .i64 u4] 64) = wj at *
      generalize wr.heap.size = bj at *
      have y0 : wj.cell? ⟨bj, 0, none⟩ = some (.int .i64 u1) := hK.out.cell 0
      have y1 : wj.cell? ⟨bj, 1, none⟩ = some (.string u2) := hK.out.cell 1
      have y2 : wj.cell? ⟨bj, 2, none⟩ = some (.int .i64 u3) := hK.out.cell 2
      have y3 : wj.cell? ⟨bj, 3, none⟩ = some (.int .i64 u4) := hK.out.cell 3
      have hin := hS2.out.inv
      have hon := hS2.out.own
      go_wp2_with (at_builtin; refine wpList_app1 (α := Int) rfl _ _ 48 rfl slI hin ao co _ hon _ _ (u4) rfl rfl 1 rfl (by omega) ?_; intro a2 cap2 w5 hi5 hown5 hgr)
      have hS5 : Hid (OwSt w φ 3 a2 cap2 (xs ++ [u4]) w5) := Lib.hid ⟨hi5, hown5⟩
      clear hi5 hown5 hgr hin hon hS2
      go_roundw
      case rel => exact ⟨k + 1, a2, cap2, xs ++ [u4], by omega, by go_num, by simp, hnx, hS5⟩
      case measure => (simp [intOf] <;> omega)
    · obtain rfl : n = k := by omega
      have ex : l.take n = l := by rw [← hn.out, List.take_length]
      rw [ex] at hxs
      have hin := hS.out.inv
      have hon := hS.out.own
      clear hS ex
      go_wp2
      go_ret
      obtain ⟨φ', hle, hi, hs, _⟩ := hon.release hin
      exact ⟨ao, co, φ', by rw [hxs.out]; rfl, hi, by rw [hxs.out]; exact hs⟩
set_option maxHeartbeats 1000000 in
theorem Rnames_any {w : World} {a : Option Addr} {c n : Nat} {l : List Unt} {φ : Phi} (hφ : Fz φ w) (s : SlV φ a c l) (hn : Hid (l.length = n)) (hl : n ≤ 5000) :
    Calls Tryz.prog 37 #[.slice a n c] w (SlP (nmsL l) φ w) := by
  have hS0 : Hid (OwSt w φ 9 none 0 ([] : List ByteArray) w) := Lib.hid ⟨Inv.start hφ, Own.nil _ _ _ _⟩
  go_enter Tryz.func37, Tryz.ntmps37
  go_wp2
  go_loopw [3, 8] (fun o i wr => ∃ (k : Nat) (ao : Option Addr) (co : Nat) (xs : List ByteArray), k ≤ n ∧ i = .int .i64 k ∧ o = .slice ao xs.length co ∧ Hid ((l.take k).map (fun u => u.2.1) = xs) ∧ Hid (OwSt w φ 9 ao co xs wr)) (fun _ i _ => n - (intOf i).toNat)
  case atStart => exact ⟨0, none, 0, [], Nat.zero_le _, rfl, rfl, Lib.hid rfl, hS0⟩
  case round =>
    clear hS0
    obtain ⟨k, ao, co, xs, hk, rfl, rfl, hxs, hS⟩ := hrel
    have hxl : xs.length ≤ 5000 := by rw [← hxs.out, List.length_map, List.length_take]; omega
    by_cases hlt : k < n
    · obtain ⟨b, off, rfl, f⟩ := s.untD hn hlt
      obtain ⟨hb, c1, c2, c3, c4⟩ := f k hlt wr hS.out.inv.fz
      have htk := Lib.hid (take_snocD unt0 l k n hn.out hlt)
      clear f
      generalize hU : l.getD k unt0 = U at *
      obtain ⟨u1, u2, u3, u4⟩ := U
      dsimp only at c1 c2 c3 c4
      have hnx : Hid ((l.take (k + 1)).map (fun u => u.2.1) = xs ++ [u2]) := Lib.hid (by rw [htk.out, List.map_append, hxs.out]; rfl)
      have hS2 := Lib.hid (OwSt.alloc hS.out (.cells #[.int .i64 u1, .string u2, .int .i64 u3, .int .i64 u4] 64))
      clear hU htk hS
      have hK := Lib.hid (Blk.new wr #[.int .i64 u1, .string u2, .int .i64 u3, .int .i64 u4] 64)
      go_upto_region 5 with (fail)
      clear c1 c2 c3 c4 hb
      generalize wr.alloc (.cells #[.int .i64 u1, .string u2, .int .i64 u3, .int .i64 u4] 64) = wj at *
      generalize wr.heap.size = bj at *
      have y0 : wj.cell? ⟨bj, 0, none⟩ = some (.int .i64 u1) := hK.out.cell 0
      have y1 : wj.cell? ⟨bj, 1, none⟩ = some (.string u2) := hK.out.cell 1
      have y2 : wj.cell? ⟨bj, 2, none⟩ = some (.int .i64 u3) := hK.out.cell 2
      have y3 : wj.cell? ⟨bj, 3, none⟩ = some (.int .i64 u4) := hK.out.cell 3
      have hin := hS2.out.inv
      have hon := hS2.out.own
      go_wp2_with (at_builtin; refine wpList_app1 (α := ByteArray) rfl _ _ 78 rfl slSt hin ao co _ hon _ _ (u2) rfl rfl 1 rfl (by omega) ?_; intro a2 cap2 w5 hi5 hown5 hgr)
      have hS5 : Hid (OwSt w φ 9 a2 cap2 (xs ++ [u2]) w5) := Lib.hid ⟨hi5, hown5⟩
      clear hi5 hown5 hgr hin hon hS2
      go_roundw
      case rel => exact ⟨k + 1, a2, cap2, xs ++ [u2], by omega, by go_num, by simp, hnx, hS5⟩
      case measure => (simp [intOf] <;> omega)
    · obtain rfl : n = k := by omega
      have ex : l.take n = l := by rw [← hn.out, List.take_length]
      rw [ex] at hxs
      have hin := hS.out.inv
      have hon := hS.out.own
      clear hS ex
      go_wp2_with (first
        | (go_at_call 96; (with_reducible refine (SSort_own hin hon (Lib.hid rfl) (by omega)).mono ?_); rintro e w6 ⟨rfl, ys, hys, hyl, hi6, ho6, hg6⟩; have HYS := Lib.hid hys; clear hys)
        | (go_at_call 97; (with_reducible refine (SCompact_own hi6 ho6 (Lib.hid hyl) (by omega)).mono ?_); rintro e w7 ⟨zs, hzs, rfl, hi7, ho7⟩; have HZS := Lib.hid hzs; clear hzs)
        | fail)
      go_ret
      obtain ⟨φ', hle, hi, hs, _⟩ := ho7.release hi7
      have e : nmsL l = zs := by
        rw [HZS.out, HYS.out, map_btT, sortT_compact, ← hxs.out, List.map_map]
        rfl
      exact ⟨ao, co, φ', by rw [e]; rfl, hi, by rw [e]; exact hs⟩
set_option maxHeartbeats 1000000 in
theorem Rclusters_any {w : World} {a : Option Addr} {c n : Nat} {l : List Unt} {φ : Phi} (hφ : Fz φ w) (s : SlV φ a c l) (hn : Hid (l.length = n)) (hl : n ≤ 5000) :
    Calls Tryz.prog 100 #[.slice a n c] w (SlP (cnsL l) φ w) := by
  have hS0 : Hid (OwSt w φ 3 none 0 ([] : List Int) w) := Lib.hid ⟨Inv.start hφ, Own.nil _ _ _ _⟩
  go_enter Tryz.func100, Tryz.ntmps100
  go_wp2
  go_loopw [3, 8] (fun o i wr => ∃ (k : Nat) (ao : Option Addr) (co : Nat) (xs : List Int), k ≤ n ∧ i = .int .i64 k ∧ o = .slice ao xs.length co ∧ Hid ((l.take k).map (fun u => u.2.2.1) = xs) ∧ Hid (OwSt w φ 3 ao co xs wr)) (fun _ i _ => n - (intOf i).toNat)
  case atStart => exact ⟨0, none, 0, [], Nat.zero_le _, rfl, rfl, Lib.hid rfl, hS0⟩
  case round =>
    clear hS0
    obtain ⟨k, ao, co, xs, hk, rfl, rfl, hxs, hS⟩ := hrel
    have hxl : xs.length ≤ 5000 := by rw [← hxs.out, List.length_map, List.length_take]; omega
    by_cases hlt : k < n
    · obtain ⟨b, off, rfl, f⟩ := s.untD hn hlt
      obtain ⟨hb, c1, c2, c3, c4⟩ := f k hlt wr hS.out.inv.fz
      have htk := Lib.hid (take_snocD unt0 l k n hn.out hlt)
      clear f
      generalize hU : l.getD k unt0 = U at *
      obtain ⟨u1, u2, u3, u4⟩ := U
      dsimp only at c1 c2 c3 c4
      have hnx : Hid ((l.take (k + 1)).map (fun u => u.2.2.1) = xs ++ [u3]) := Lib.hid (by rw [htk.out, List.map_append, hxs.out]; rfl)
      have hS2 := Lib.hid (OwSt.alloc hS.out (.cells #[.int .i64 u1, .string u2, .int .i64 u3, .int .i64 u4] 64))
      clear hU htk hS
      have hK := Lib.hid (Blk.new wr #[.int .i64 u1, .string u2, .int .i64 u3, .int .i64 u4] 64)
      go_upto_region 5 with (fail)
      clear c1 c2 c3 c4 hb
      generalize wr.alloc (.cells #[.int .i64 u1, .string u2, .int .i64 u3, .int .i64 u4] 64) = wj at *
      generalize wr.heap.size = bj at *
      have y0 : wj.cell? ⟨bj, 0, none⟩ = some (.int .i64 u1) := hK.out.cell 0
      have y1 : wj.cell? ⟨bj, 1, none⟩ = some (.string u2) := hK.out.cell 1
      have y2 : wj.cell? ⟨bj, 2, none⟩ = some (.int .i64 u3) := hK.out.cell 2
      have y3 : wj.cell? ⟨bj, 3, none⟩ = some (.int .i64 u4) := hK.out.cell 3
      have hin := hS2.out.inv
      have hon := hS2.out.own
      go_wp2_with (at_builtin; refine wpList_app1 (α := Int) rfl _ _ 48 rfl slI hin ao co _ hon _ _ (u3) rfl rfl 1 rfl (by omega) ?_; intro a2 cap2 w5 hi5 hown5 hgr)
      have hS5 : Hid (OwSt w φ 3 a2 cap2 (xs ++ [u3]) w5) := Lib.hid ⟨hi5, hown5⟩
      clear hi5 hown5 hgr hin hon hS2
      go_roundw
      case rel => exact ⟨k + 1, a2, cap2, xs ++ [u3], by omega, by go_num, by simp, hnx, hS5⟩
      case measure => (simp [intOf] <;> omega)
    · obtain rfl : n = k := by omega
      have ex : l.take n = l := by rw [← hn.out, List.take_length]
      rw [ex] at hxs
      have hin := hS.out.inv
      have hon := hS.out.own
      clear hS ex
      go_wp2_with (first
        | (go_at_call 62; (with_reducible refine (ISort_own hin hon (Lib.hid rfl) (by omega)).mono ?_); rintro e w6 ⟨rfl, ys, hys, hyl, hi6, ho6, hg6⟩; have HYS := Lib.hid hys; clear hys)
        | (go_at_call 155; (with_reducible refine (ICompact_own hi6 ho6 (Lib.hid hyl) (by omega)).mono ?_); rintro e w7 ⟨zs, hzs, rfl, hi7, ho7⟩; have HZS := Lib.hid hzs; clear hzs)
        | fail)
      go_ret
      obtain ⟨φ', hle, hi, hs, _⟩ := ho7.release hi7
      have e : cnsL l = zs := by
        rw [HZS.out, HYS.out, sortI_compact, ← hxs.out]
        rfl
      exact ⟨ao, co, φ', by rw [e]; rfl, hi, by rw [e]; exact hs⟩
set_option maxHeartbeats 1000000 in
theorem Rof_any {w : World} {a : Option Addr} {c n : Nat} {l : List Unt} {φ : Phi} (hφ : Fz φ w) (s : SlV φ a c l) (hn : Hid (l.length = n)) (hl : n ≤ 5000) (z : ByteArray) :
    Calls Tryz.prog 34 #[.slice a n c, .string z] w (SlP (stU l z) φ w) := by
  have hS0 : Hid (OwSt w φ 64 none 0 (stU (l.take 0) z) w) := Lib.hid ⟨Inv.start hφ, Own.nil _ _ _ _⟩
  go_enter Tryz.func34, Tryz.ntmps34
  go_wp2
  go_loopw [5, 10] (fun o i wr => ∃ (k : Nat) (ao : Option Addr) (co : Nat) (xs : List Unt), k ≤ n ∧ i = .int .i64 k ∧ o = .slice ao xs.length co ∧ Hid (stU (l.take k) z = xs) ∧ Hid (OwSt w φ 64 ao co xs wr)) (fun _ i _ => n - (intOf i).toNat)
  case atStart => exact ⟨0, none, 0, [], Nat.zero_le _, rfl, rfl, Lib.hid rfl, hS0⟩
  case round =>
    clear hS0
    obtain ⟨k, ao, co, xs, hk, rfl, rfl, hxs, hS⟩ := hrel
    have hxl : xs.length ≤ 5000 := by rw [← hxs.out]; have := stU_len (l.take k) z; rw [List.length_take] at this; omega
    by_cases hlt : k < n
    · obtain ⟨b, off, rfl, f⟩ := s.untD hn hlt
      obtain ⟨hb, c1, c2, c3, c4⟩ := f k hlt wr hS.out.inv.fz
      have htk := Lib.hid (take_snocD unt0 l k n hn.out hlt)
      clear f
      generalize hU : l.getD k unt0 = U at *
      obtain ⟨u1, u2, u3, u4⟩ := U
      dsimp only at c1 c2 c3 c4
      have hnx : Hid (stU (l.take (k + 1)) z = if u2 = z then xs ++ [(u1, u2, u3, u4)] else xs) := Lib.hid (by rw [htk.out, stU_snoc, hxs.out])
      have hS2 := Lib.hid (OwSt.alloc hS.out (.cells #[.int .i64 u1, .string u2, .int .i64 u3, .int .i64 u4] 64))
      clear hU htk hS
      have hK := Lib.hid (Blk.new wr #[.int .i64 u1, .string u2, .int .i64 u3, .int .i64 u4] 64)
      go_upto_region 5 with (fail)
      clear c1 c2 c3 c4 hb
      generalize wr.alloc (.cells #[.int .i64 u1, .string u2, .int .i64 u3, .int .i64 u4] 64) = wj at *
      generalize wr.heap.size = bj at *
      have y0 : wj.cell? ⟨bj, 0, none⟩ = some (.int .i64 u1) := hK.out.cell 0
      have y1 : wj.cell? ⟨bj, 1, none⟩ = some (.string u2) := hK.out.cell 1
      have y2 : wj.cell? ⟨bj, 2, none⟩ = some (.int .i64 u3) := hK.out.cell 2
      have y3 : wj.cell? ⟨bj, 3, none⟩ = some (.int .i64 u4) := hK.out.cell 3
      by_cases hz : u2 = z
      · rw [if_pos hz] at hnx
        have hq := str_eq_t hz
        have hin := hS2.out.inv
        have hon := hS2.out.own
        have hrp := fun φ => rep_unt φ (u1, u2, u3, u4)
        have HRP := Lib.hid hrp
        clear hrp hz
        go_wp2_with (at_builtin; refine wpList_app1 (α := Unt) rfl _ _ 25 rfl slUn hin ao co _ hon _ _ (u1, u2, u3, u4) (HRP.out _) rfl 1 rfl (by omega) ?_; intro a2 cap2 w5 hi5 hown5 hgr)
        have hS5 : Hid (OwSt w φ 64 a2 cap2 (xs ++ [(u1, u2, u3, u4)]) w5) := Lib.hid ⟨hi5, hown5⟩
        clear hi5 hown5 hgr hin hon hS2
        go_roundw
        case rel => exact ⟨k + 1, a2, cap2, xs ++ [(u1, u2, u3, u4)], by omega, by go_num, by simp, hnx, hS5⟩
        case measure => (simp [intOf] <;> omega)
      · rw [if_neg hz] at hnx
        have hq := str_eq_f hz
        clear hz
        go_wp2
        go_roundw
        case rel => exact ⟨k + 1, ao, co, xs, by omega, by go_num, rfl, hnx, hS2⟩
        case measure => (simp [intOf] <;> omega)
    · obtain rfl : n = k := by omega
      have ex : l.take n = l := by rw [← hn.out, List.take_length]
      rw [ex] at hxs
      go_wp2
      go_ret
      obtain ⟨φ', hle, hi, hs, _⟩ := hS.out.own.release hS.out.inv
      exact ⟨ao, co, φ', by rw [hxs.out]; rfl, hi, by rw [hxs.out]; exact hs⟩
theorem Rtotal_any {w : World} {a : Option Addr} {c n : Nat} {xs : List Int} {φ : Phi} (hφ : Fz φ w) (s : SlV φ a c xs) (hn : Hid (xs.length = n)) (hl : n ≤ 5000) (hb : Hid (∀ k, k ≤ n → 0 ≤ (xs.take k).sum ∧ (xs.take k).sum ≤ 5000000000)) :
    Calls Tryz.prog 90 #[.slice a n c] w fun e w' => e = .returned (.int .i64 xs.sum) ∧ w = w' := by
  go_enter Tryz.func90, Tryz.ntmps90
  go_wp2
  go_loop [3, 8] (fun o i => ∃ (k : Nat), k ≤ n ∧ i = .int .i64 k ∧ o = .int .i64 (xs.take k).sum) (fun _ i => n - (intOf i).toNat)
  case atStart => exact ⟨0, Nat.zero_le _, rfl, rfl⟩
  case round =>
    obtain ⟨k, hk, rfl, rfl⟩ := hrel
    by_cases hlt : k < n
    · obtain ⟨b, off, rfl, f⟩ := s.intsD hn hlt
      obtain ⟨hb0, c1⟩ := f k hlt w hφ
      have h1 := hb.out k hk
      have h2 := hb.out (k + 1) (by omega)
      have hst : Hid ((xs.take (k + 1)).sum = (xs.take k).sum + xs.getD k 0) := Lib.hid (by rw [take_snocD 0 xs k n hn.out hlt, List.sum_append]; simp)
      rw [hst.out] at h2
      clear f
      generalize (xs.take k).sum = q at *
      generalize xs.getD k 0 = x at *
      have hwr : IntKind.i64.wrap (q + x) = q + x := IntWalk.i64_in _ (by omega)
      go_wp2
      go_round
      case rel => exact ⟨k + 1, by omega, by go_num, by rw [hst.out]⟩
      case measure => (simp [intOf] <;> omega)
    · obtain rfl : n = k := by omega
      have ex : xs.take n = xs := by rw [← hn.out, List.take_length]
      rw [ex]
      go_wp2
      go_ret
      exact ⟨rfl, rfl⟩
end Go.Proofs.YtnlhalnjbkpdnaaGreatDoor

namespace Go.Proofs.YtnlhalnjbkpdnaaGreatDoor
open Go.RowKit
set_option linter.unusedVariables false
set_option linter.unusedSimpArgs false

/-- The library's table of blanks, in the frozen heap. -/
def TabP (φ : Phi) : Prop := ∀ c : Nat, c < 256 → φ.cell? ⟨0, c, none⟩ = some (.int .u8 (if Lib.isSp (UInt8.ofNat c) then 1 else 0))
theorem TabP.mono {φ φ' : Phi} (h : TabP φ) (hl : φ.le φ') : TabP φ' := fun c hc => hl.cell (h c hc)
theorem wordByte_any (n : Int) (w : World) (h0 : 0 ≤ n) (h1 : n < 256) {b : Bool} (h : wrdB n = b) :
    Calls Tryz.prog 153 #[.int .u8 n] w fun e w' => e = .returned (.bool b) ∧ w = w' := by
  subst h
  go_enter Tryz.func153, Tryz.ntmps153
  go_wp2
  all_goals
    go_ret
    exact ⟨ret_bool (by unfold wrdB lowB; rw [Bool.eq_iff_iff]; simp; omega), rfl⟩
/-- The words that are no names, as a list. -/
def resW : List ByteArray := [⟨#[97, 110, 100]⟩, ⟨#[111, 114]⟩, ⟨#[110, 111, 116]⟩, ⟨#[105, 110]⟩, ⟨#[104, 97, 115]⟩, ⟨#[109, 111, 100]⟩, ⟨#[116, 114, 117, 101]⟩, ⟨#[102, 97, 108, 115, 101]⟩]
def resT : ByteArray := ⟨#[97, 110, 100, 32, 111, 114, 32, 110, 111, 116, 32, 105, 110, 32, 104, 97, 115, 32, 109, 111, 100, 32, 116, 114, 117, 101, 32, 102, 97, 108, 115, 101]⟩
theorem ba_eq (s : ByteArray) (l : List UInt8) : (s = ⟨l.toArray⟩) ↔ (s.toList == l) = true := by
  rw [beq_iff_eq, ByteArray.toList_eq]
  constructor
  · rintro rfl; simp
  · intro h
    obtain ⟨⟨x⟩⟩ := s
    have : x = l := h
    rw [this]
theorem resv_mem (s : ByteArray) : decide (s ∈ resW) = resv s := by
  rw [Bool.eq_iff_iff, decide_eq_true_iff]
  unfold resW resv
  simp only [List.mem_cons, List.not_mem_nil, or_false, Bool.or_eq_true]
  rw [ba_eq s [97, 110, 100], ba_eq s [111, 114], ba_eq s [110, 111, 116], ba_eq s [105, 110], ba_eq s [104, 97, 115], ba_eq s [109, 111, 100], ba_eq s [116, 114, 117, 101], ba_eq s [102, 97, 108, 115, 101]]
  simp only [or_assoc]
theorem res_fields : (Lib.fields resT.data.toList) = resW.map (fun b => b.data.toList) := by decide
theorem res_ascii : ∀ (j : Nat) (b : UInt8), resT.data.toList[j]? = some b → b.toNat < 128 := by
  have h : ∀ b ∈ resT.data.toList, b.toNat < 128 := by decide
  exact fun j b hj => h b (List.mem_of_getElem? hj)
def FieldsPost (φ : Phi) (w : World) (e : Ending) (w' : World) : Prop := ∃ φ' a, e = .returned (.slice a 8 8) ∧ Inv w.heap.size w φ φ' w' ∧ SlV φ' a 8 resW
theorem Fields_res (w : World) (φ : Phi) (hφ : Fz φ w) (ht : TabP φ) : Calls Tryz.prog 152 #[.string resT] w (FieldsPost φ w) := by
  refine (Any.strings_Fields_core Tryz.lays157 (by kernel_rfl) resT w (by decide) res_ascii (fun c hc => hφ.cell (ht c hc))).mono ?_
  rintro e w' ⟨rfl, rfl⟩
  obtain ⟨φ', h1, h2, h3⟩ := SlV.lit (α := ByteArray) hφ 9 (xs := resW) (arr := ((Lib.fields resT.data.toList).map fun l => Value.string ⟨l.toArray⟩).toArray) (by
    rw [res_fields]
    refine ⟨_, _, rfl, rfl, _, _, rfl, rfl, _, _, rfl, rfl, _, _, rfl, rfl, _, _, rfl, rfl, _, _, rfl, rfl, _, _, rfl, rfl, _, _, rfl, rfl, rfl⟩) (by decide)
  exact ⟨φ', _, by rw [res_fields]; rfl, h2, h3⟩
set_option maxRecDepth 100000 in
set_option maxHeartbeats 1000000 in
theorem RIsName_any (s : ByteArray) (w : World) (φ : Phi) (hφ : Fz φ w) (ht : TabP φ) (hs : s.size ≤ reachBytes) {b : Bool} (h : Hid (nameB s = b)) :
    Calls Tryz.prog 95 #[.string s] w (fun e w' => e = .returned (.bool b) ∧ Below w.heap.size w w') := by
  by_cases hz : s.size = 0
  · have he : s.toList.isEmpty = true := by rw [isEmpty_iff]; simp [hz]
    have he2 : s.toList = [] := List.isEmpty_iff.1 he
    have HZ := Lib.hid hz
    clear hz
    go_enter Tryz.func95, Tryz.ntmps95
    go_wp2
    go_ret
    exact ⟨ret_bool ((nameB_false (fun h => by have := h.1; have := HZ.out; omega)).symm.trans h.out), Below.refl _ _⟩
  have he : s.toList.isEmpty = false := by rw [isEmpty_iff]; simp [hz]
  have hp : 0 < s.size := by omega
  by_cases h16 : 16 < s.size
  · unfold reachBytes at hs
    go_enter Tryz.func95, Tryz.ntmps95
    go_wp2
    go_ret
    exact ⟨ret_bool ((nameB_false (fun h => by have := h.2.1; omega)).symm.trans h.out), Below.refl _ _⟩
  have hc := byt_bd s 0
  have b0 := Lib.hid (byt_eq s 0 hp)
  have hc0 : ((s[0]'hp).toNat : Int) < 256 := by rw [← b0.out]; omega
  have hc1 : 0 ≤ ((s[0]'hp).toNat : Int) := by omega
  clear hs hz
  by_cases l1 : ((s[0]'hp).toNat : Int) < 97
  · go_enter Tryz.func95, Tryz.ntmps95
    go_wp2
    go_ret
    exact ⟨ret_bool ((nameB_false (fun h => by have := h.2.2.1; rw [b0.out] at this; unfold lowB at this; simp at this; omega)).symm.trans h.out), Below.refl _ _⟩
  by_cases l2 : 122 < ((s[0]'hp).toNat : Int)
  · go_enter Tryz.func95, Tryz.ntmps95
    go_wp2
    go_ret
    exact ⟨ret_bool ((nameB_false (fun h => by have := h.2.2.1; rw [b0.out] at this; unfold lowB at this; simp at this; omega)).symm.trans h.out), Below.refl _ _⟩
  have hl0 : Hid (lowB ((s[0]'hp).toNat : Int) = true) := Lib.hid (by unfold lowB; simp; omega)
  obtain ⟨r0, hr0⟩ : ∃ b, Hid (resv s = b) := ⟨_, Lib.hid rfl⟩
  have hrm : Hid (decide (s ∈ resW) = r0) := Lib.hid ((resv_mem s).trans hr0.out)
  have hrl : Hid (resW.length = 8) := Lib.hid rfl
  have hT : Hid (TabP φ) := Lib.hid ht
  clear ht
  go_enter Tryz.func95, Tryz.ntmps95
  cases r0
  case true =>
    go_wp2_with (first | (go_at_call 152; refine (Fields_res w φ hφ hT.out).mono ?_; rintro e w1 ⟨φ1, a1, rfl, hi1, s1⟩) | (go_at_call 151; refine (ContainsS_b 8 a1 8 resW s w1 φ1 hi1.fz s1 hrl (by omega) hrm).mono ?_; rintro e w' ⟨rfl, rfl⟩))
    go_ret
    exact ⟨ret_bool ((nameB_false (fun h => by have := h.2.2.2.1; rw [hr0.out] at this; cases this)).symm.trans h.out), hi1.bel⟩
  go_wp2_with (first | (go_at_call 152; refine (Fields_res w φ hφ hT.out).mono ?_; rintro e w1 ⟨φ1, a1, rfl, hi1, s1⟩) | (go_at_call 151; refine (ContainsS_b 8 a1 8 resW s w1 φ1 hi1.fz s1 hrl (by omega) hrm).mono ?_; rintro e w' ⟨rfl, rfl⟩))
  have hB := Lib.hid hi1.bel
  clear hi1 s1
  go_loop [28] (fun i => ∃ k : Nat, k ≤ s.size ∧ i = .int .i64 k ∧ Hid (∀ i, i < k → wrdB (byt s i) = true)) (fun i => s.size - (intOf i).toNat)
  case atStart => exact ⟨0, Nat.zero_le _, rfl, Lib.hid (fun i hi => by omega)⟩
  case round =>
    obtain ⟨k, hk, rfl, hok⟩ := hrel
    by_cases hlt : k < s.size
    · have hb := byt_bd s k
      have hek := Lib.hid (byt_eq s k hlt)
      have hd0 : ((s[k]'hlt).toNat : Int) < 256 := by rw [← hek.out]; omega
      have hd1 : 0 ≤ ((s[k]'hlt).toNat : Int) := by omega
      obtain ⟨o, ho⟩ : ∃ o, Hid (wrdB ((s[k]'hlt).toNat : Int) = o) := ⟨_, Lib.hid rfl⟩
      cases o
      · go_wp2_with (go_at_call 153; refine (wordByte_any _ _ hd1 hd0 ho.out).mono ?_; rintro e w' ⟨rfl, rfl⟩)
        go_ret
        exact ⟨ret_bool ((nameB_false (fun h => by have := h.2.2.2.2 k hlt; rw [hek.out, ho.out] at this; cases this)).symm.trans h.out), hB.out⟩
      · go_wp2_with (go_at_call 153; refine (wordByte_any _ _ hd1 hd0 ho.out).mono ?_; rintro e w' ⟨rfl, rfl⟩)
        go_round
        case rel => exact ⟨k + 1, by omega, by go_num, Lib.hid (fun i hi => by
          by_cases e : i = k
          · subst e; rw [hek.out]; exact ho.out
          · exact hok.out i (by omega))⟩
        case measure => (simp [intOf] <;> omega)
    · obtain rfl : k = s.size := by omega
      go_wp2
      go_ret
      exact ⟨ret_bool ((nameB_true ⟨hp, by omega, by rw [b0.out]; exact hl0.out, hr0.out, hok.out⟩).symm.trans h.out), hB.out⟩
end Go.Proofs.YtnlhalnjbkpdnaaGreatDoor

namespace Go.Proofs.YtnlhalnjbkpdnaaGreatDoor
open Go.RowKit Go.Sort
set_option linter.unusedVariables false
set_option linter.unusedSimpArgs false
/-- A unit in a box, nothing else turned. -/
structure UbS (w0 : World) (bj : Nat) (u1 : Int) (u2 : ByteArray) (u3 u4 : Int) (W : World) : Prop where
  bel : Below w0.heap.size w0 W
  k : Blk W bj #[.int .i64 u1, .string u2, .int .i64 u3, .int .i64 u4] 64
theorem UbS.callB {w0 W w' : World} {bj : Nat} {u1 : Int} {u2 : ByteArray} {u3 u4 : Int} (h : UbS w0 bj u1 u2 u3 u4 W) (hb : Below W.heap.size W w') : UbS w0 bj u1 u2 u3 u4 w' := ⟨h.bel.trans (hb.mono h.bel.size), h.k.callB hb⟩
theorem UbS.start {w0 W : World} (h : Below w0.heap.size w0 W) (u1 : Int) (u2 : ByteArray) (u3 u4 : Int) : UbS w0 W.heap.size u1 u2 u3 u4 (W.alloc (.cells #[.int .i64 u1, .string u2, .int .i64 u3, .int .i64 u4] 64)) := ⟨h.alloc h.size _, Blk.new _ _ _⟩
theorem UbS.cells {w0 W : World} {bj : Nat} {u1 : Int} {u2 : ByteArray} {u3 u4 : Int} (h : Hid (UbS w0 bj u1 u2 u3 u4 W)) : W.cell? ⟨bj, 0, none⟩ = some (.int .i64 u1) ∧ W.cell? ⟨bj, 1, none⟩ = some (.string u2) ∧ W.cell? ⟨bj, 2, none⟩ = some (.int .i64 u3) ∧ W.cell? ⟨bj, 3, none⟩ = some (.int .i64 u4) := ⟨h.out.k.cell 0, h.out.k.cell 1, h.out.k.cell 2, h.out.k.cell 3⟩
theorem outU {u3 u4 : Int} : (outB u3 0 5000 = true ∨ outB u4 1 1000000 = true) ↔ (u3 < 0 ∨ 5000 < u3 ∨ u4 < 1 ∨ 1000000 < u4) := by
  unfold outB
  simp
  omega
theorem frm_stop {l : List Unt} {n k : Nat} (hn : l.length = n) (hl : n ≤ 5000) (hk : k < n) (h : ∀ i, i < k → uBad l i = 0) {q : Int} (hq : uBad l k = q) (h0 : q ≠ 0) : frmU l = q := by
  unfold frmU
  rw [if_neg (by omega), hn, scan_stop h hk (by rw [hq]; exact h0), hq, if_pos h0]
theorem frm_end {l : List Unt} {n : Nat} (hn : l.length = n) (hl : n ≤ 5000) (h : ∀ i, i < n → uBad l i = 0) : frmU l = if 40 < (nmsL l).length then 2 else 0 := by
  unfold frmU
  rw [if_neg (by omega), hn, scan_zero _ _ h, if_neg (by simp)]
set_option maxRecDepth 100000 in
set_option maxHeartbeats 4000000 in
theorem RCheckFrame_any {w : World} {a : Option Addr} {c n : Nat} {l : List Unt} {φ : Phi} (hφ : Fz φ w) (ht : TabP φ) (s : SlV φ a c l) (hn : Hid (l.length = n)) (hm : n ≤ 9223372036854775807) (hs : Hid (∀ u ∈ l, u.2.1.size ≤ reachBytes)) :
    Calls Tryz.prog 36 #[.slice a n c] w (fun e w' => e = .returned (.int .i64 (frmU l)) ∧ Below w.heap.size w w') := by
  have HF := Lib.hid hφ
  have HT := Lib.hid ht
  clear ht
  by_cases hl : 5000 < n
  · have hf : Hid (frmU l = 2) := Lib.hid (by unfold frmU; rw [if_pos (by rw [hn.out]; exact hl)])
    go_enter Tryz.func36, Tryz.ntmps36
    go_wp2
    go_ret
    exact ⟨ret_int hf.out.symm, Below.refl _ _⟩
  have hl : n ≤ 5000 := by omega
  go_enter Tryz.func36, Tryz.ntmps36
  go_wp2
  go_loopw [10] (fun i wr => ∃ k : Nat, k ≤ n ∧ i = .int .i64 k ∧ Hid (∀ i, i < k → uBad l i = 0) ∧ Hid (Below w.heap.size w wr)) (fun i _ => n - (intOf i).toNat)
  case atStart => exact ⟨0, Nat.zero_le _, rfl, Lib.hid (none_yet _), Lib.hid (Below.refl _ _)⟩
  case round =>
    obtain ⟨k, hk, rfl, hok, hB⟩ := hrel
    by_cases hlt : k < n
    · obtain ⟨b, off, rfl, f⟩ := s.untD hn hlt
      obtain ⟨hb, c1, c2, c3, c4⟩ := f k hlt wr (hφ.below hB.out)
      have hp : 0 < k → ∀ o, (wr.alloc o).cell? ⟨b, off + (k - 1) * 4, none⟩ = some (.int .i64 (l.getD (k - 1) unt0).1) := fun h o => (f (k - 1) (by omega) (wr.alloc o) ((hφ.below hB.out).alloc o)).2.1
      have hbad : Hid (uBad l k = _) := Lib.hid (uBad.eq_1 l k)
      have hsu : Hid ((l.getD k unt0).2.1.size ≤ reachBytes) := Lib.hid (hs.out _ (by rw [getD_elem0 _ _ _ (by rw [hn.out]; exact hlt)]; exact List.getElem_mem _))
      have HP := Lib.hid hp
      clear f hp
      generalize (l.getD (k - 1) unt0).1 = p at *
      generalize hU : l.getD k unt0 = U at *
      obtain ⟨u1, u2, u3, u4⟩ := U
      dsimp only at c1 c2 c3 c4 hsu hbad
      have hB2 := Lib.hid (UbS.start hB.out u1 u2 u3 u4)
      clear hU
      go_upto_region 6 with (fail)
      have HP := Lib.hid (fun h => HP.out h (.cells #[.int .i64 u1, .string u2, .int .i64 u3, .int .i64 u4] 64))
      clear c1 c2 c3 c4 hb hB
      generalize wr.alloc (.cells #[.int .i64 u1, .string u2, .int .i64 u3, .int .i64 u4] 64) = wj at *
      generalize wr.heap.size = bj at *
      obtain ⟨y0, y1, y2, y3⟩ := UbS.cells hB2
      by_cases ha : u1 < 1
      · have HA := Lib.hid ha
        go_wp2
        go_ret
        exact ⟨ret_int (frm_stop hn.out hl hlt hok.out (by rw [hbad.out, if_pos HA.out]) (by decide)).symm, hB2.out.bel⟩
      have HA := Lib.hid ha
      have g0 : decide (u1 < 1) = false := decide_eq_false ha
      clear ha
      by_cases h3 : 0 < k
      · have hpp := HP.out h3
        have h3i : (0 : Int) < k := by omega
        have hix : 0 ≤ (k : Int) - 1 := by omega
        have hix2 : (k : Int) - 1 < n := by omega
        have hw1 : IntKind.i64.wrap ((k : Int) - 1) = k - 1 := IntWalk.i64_in _ (by omega)
        have hto : ((k : Int) - 1).toNat = k - 1 := by omega
        by_cases h4 : u1 ≤ p
        · have e7 : Hid (uBad l k = 7) := Lib.hid (by rw [hbad.out, if_neg HA.out, if_pos ⟨h3, h4⟩])
          go_upto_region 8 with (fail)
          go_quiet (fail)
          go_wp2
          go_ret
          exact ⟨ret_int (frm_stop hn.out hl hlt hok.out e7.out (by decide)).symm, bdrewN hB2.out.bel _⟩
        have hb2 : Hid (uBad l k = _) := Lib.hid (by rw [hbad.out, if_neg HA.out, if_neg (fun q => h4 q.2)])
        have g5 : decide (u1 ≤ p) = false := decide_eq_false h4
        clear h4
        go_upto_region 8 with (fail)
        go_quiet (fail)
        have hB2 : Hid (UbS w bj u1 u2 u3 u4 (wj.drewN nq)) := Lib.hid (hB2.out.callB (bdrewN (Below.refl _ wj) nq))
        clear y0 y1 y2 y3
        obtain ⟨y0, y1, y2, y3⟩ := UbS.cells hB2
        go_upto_region 10 with (fail)
        obtain ⟨nb, hnb⟩ : ∃ b, Hid (nameB u2 = b) := ⟨_, Lib.hid rfl⟩
        cases nb with
        | false =>
          have e5 : Hid (uBad l k = 5) := Lib.hid (by rw [hb2.out, if_pos hnb.out])
          go_wp2_with (go_at_call 95; (with_reducible refine (RIsName_any u2 _ φ (HF.out.below hB2.out.bel) HT.out hsu.out hnb).mono ?_); rintro e w9 ⟨rfl, hb9⟩; have hB9 := Lib.hid (hB2.out.callB hb9); clear hb9; obtain ⟨z0, z1, z2, z3⟩ := UbS.cells hB9)
          go_ret
          exact ⟨ret_int (frm_stop hn.out hl hlt hok.out e5.out (by decide)).symm, hB9.out.bel⟩
        | true =>
          have HN : Hid (¬ nameB u2 = false) := Lib.hid (by rw [hnb.out]; simp)
          by_cases d1 : u3 < 0
          · have HD : Hid (outB u3 0 5000 = true ∨ outB u4 1 1000000 = true) := Lib.hid (outU.2 (by omega))
            have e5 : Hid (uBad l k = 1) := Lib.hid (by rw [hb2.out, if_neg HN.out, if_pos HD.out])
            go_wp2_with (go_at_call 95; (with_reducible refine (RIsName_any u2 _ φ (HF.out.below hB2.out.bel) HT.out hsu.out hnb).mono ?_); rintro e w9 ⟨rfl, hb9⟩; have hB9 := Lib.hid (hB2.out.callB hb9); clear hb9; obtain ⟨z0, z1, z2, z3⟩ := UbS.cells hB9)
            go_ret
            exact ⟨ret_int (frm_stop hn.out hl hlt hok.out e5.out (by decide)).symm, hB9.out.bel⟩
          by_cases d2 : 5000 < u3
          · have HD : Hid (outB u3 0 5000 = true ∨ outB u4 1 1000000 = true) := Lib.hid (outU.2 (by omega))
            have g1 : decide (u3 < 0) = false := decide_eq_false d1
            have e5 : Hid (uBad l k = 1) := Lib.hid (by rw [hb2.out, if_neg HN.out, if_pos HD.out])
            go_wp2_with (go_at_call 95; (with_reducible refine (RIsName_any u2 _ φ (HF.out.below hB2.out.bel) HT.out hsu.out hnb).mono ?_); rintro e w9 ⟨rfl, hb9⟩; have hB9 := Lib.hid (hB2.out.callB hb9); clear hb9; obtain ⟨z0, z1, z2, z3⟩ := UbS.cells hB9)
            go_ret
            exact ⟨ret_int (frm_stop hn.out hl hlt hok.out e5.out (by decide)).symm, hB9.out.bel⟩
          by_cases d3 : u4 < 1
          · have HD : Hid (outB u3 0 5000 = true ∨ outB u4 1 1000000 = true) := Lib.hid (outU.2 (by omega))
            have g1 : decide (u3 < 0) = false := decide_eq_false d1
            have g2 : decide (u3 > 5000) = false := decide_eq_false d2
            have e5 : Hid (uBad l k = 1) := Lib.hid (by rw [hb2.out, if_neg HN.out, if_pos HD.out])
            go_wp2_with (go_at_call 95; (with_reducible refine (RIsName_any u2 _ φ (HF.out.below hB2.out.bel) HT.out hsu.out hnb).mono ?_); rintro e w9 ⟨rfl, hb9⟩; have hB9 := Lib.hid (hB2.out.callB hb9); clear hb9; obtain ⟨z0, z1, z2, z3⟩ := UbS.cells hB9)
            go_ret
            exact ⟨ret_int (frm_stop hn.out hl hlt hok.out e5.out (by decide)).symm, hB9.out.bel⟩
          by_cases d4 : 1000000 < u4
          · have HD : Hid (outB u3 0 5000 = true ∨ outB u4 1 1000000 = true) := Lib.hid (outU.2 (by omega))
            have g1 : decide (u3 < 0) = false := decide_eq_false d1
            have g2 : decide (u3 > 5000) = false := decide_eq_false d2
            have g3 : decide (u4 < 1) = false := decide_eq_false d3
            have e5 : Hid (uBad l k = 1) := Lib.hid (by rw [hb2.out, if_neg HN.out, if_pos HD.out])
            go_wp2_with (go_at_call 95; (with_reducible refine (RIsName_any u2 _ φ (HF.out.below hB2.out.bel) HT.out hsu.out hnb).mono ?_); rintro e w9 ⟨rfl, hb9⟩; have hB9 := Lib.hid (hB2.out.callB hb9); clear hb9; obtain ⟨z0, z1, z2, z3⟩ := UbS.cells hB9)
            go_ret
            exact ⟨ret_int (frm_stop hn.out hl hlt hok.out e5.out (by decide)).symm, hB9.out.bel⟩
          have e5 : Hid (uBad l k = 0) := Lib.hid (by rw [hb2.out, if_neg HN.out, if_neg (fun q => by have := outU.1 q; omega)])
          have g1 : decide (u3 < 0) = false := decide_eq_false d1
          have g2 : decide (u3 > 5000) = false := decide_eq_false d2
          have g3 : decide (u4 < 1) = false := decide_eq_false d3
          have g4 : decide (u4 > 1000000) = false := decide_eq_false d4
          go_wp2_with (go_at_call 95; (with_reducible refine (RIsName_any u2 _ φ (HF.out.below hB2.out.bel) HT.out hsu.out hnb).mono ?_); rintro e w9 ⟨rfl, hb9⟩; have hB9 := Lib.hid (hB2.out.callB hb9); clear hb9; obtain ⟨z0, z1, z2, z3⟩ := UbS.cells hB9)
          go_roundw
          case rel => exact ⟨k + 1, by omega, by go_num, Lib.hid (next_ok hok.out e5.out), Lib.hid hB9.out.bel⟩
          case measure => (simp [intOf] <;> omega)
      · have h3i : decide ((0 : Int) < k) = false := decide_eq_false (by omega)
        have hb2 : Hid (uBad l k = _) := Lib.hid (by rw [hbad.out, if_neg HA.out, if_neg (fun q => h3 q.1)])
        go_upto_region 8 with (fail)
        go_quiet (fail)
        have hB2 : Hid (UbS w bj u1 u2 u3 u4 (wj.drewN nq)) := Lib.hid (hB2.out.callB (bdrewN (Below.refl _ wj) nq))
        clear y0 y1 y2 y3
        obtain ⟨y0, y1, y2, y3⟩ := UbS.cells hB2
        go_upto_region 10 with (fail)
        obtain ⟨nb, hnb⟩ : ∃ b, Hid (nameB u2 = b) := ⟨_, Lib.hid rfl⟩
        cases nb with
        | false =>
          have e5 : Hid (uBad l k = 5) := Lib.hid (by rw [hb2.out, if_pos hnb.out])
          go_wp2_with (go_at_call 95; (with_reducible refine (RIsName_any u2 _ φ (HF.out.below hB2.out.bel) HT.out hsu.out hnb).mono ?_); rintro e w9 ⟨rfl, hb9⟩; have hB9 := Lib.hid (hB2.out.callB hb9); clear hb9; obtain ⟨z0, z1, z2, z3⟩ := UbS.cells hB9)
          go_ret
          exact ⟨ret_int (frm_stop hn.out hl hlt hok.out e5.out (by decide)).symm, hB9.out.bel⟩
        | true =>
          have HN : Hid (¬ nameB u2 = false) := Lib.hid (by rw [hnb.out]; simp)
          by_cases d1 : u3 < 0
          · have HD : Hid (outB u3 0 5000 = true ∨ outB u4 1 1000000 = true) := Lib.hid (outU.2 (by omega))
            have e5 : Hid (uBad l k = 1) := Lib.hid (by rw [hb2.out, if_neg HN.out, if_pos HD.out])
            go_wp2_with (go_at_call 95; (with_reducible refine (RIsName_any u2 _ φ (HF.out.below hB2.out.bel) HT.out hsu.out hnb).mono ?_); rintro e w9 ⟨rfl, hb9⟩; have hB9 := Lib.hid (hB2.out.callB hb9); clear hb9; obtain ⟨z0, z1, z2, z3⟩ := UbS.cells hB9)
            go_ret
            exact ⟨ret_int (frm_stop hn.out hl hlt hok.out e5.out (by decide)).symm, hB9.out.bel⟩
          by_cases d2 : 5000 < u3
          · have HD : Hid (outB u3 0 5000 = true ∨ outB u4 1 1000000 = true) := Lib.hid (outU.2 (by omega))
            have g1 : decide (u3 < 0) = false := decide_eq_false d1
            have e5 : Hid (uBad l k = 1) := Lib.hid (by rw [hb2.out, if_neg HN.out, if_pos HD.out])
            go_wp2_with (go_at_call 95; (with_reducible refine (RIsName_any u2 _ φ (HF.out.below hB2.out.bel) HT.out hsu.out hnb).mono ?_); rintro e w9 ⟨rfl, hb9⟩; have hB9 := Lib.hid (hB2.out.callB hb9); clear hb9; obtain ⟨z0, z1, z2, z3⟩ := UbS.cells hB9)
            go_ret
            exact ⟨ret_int (frm_stop hn.out hl hlt hok.out e5.out (by decide)).symm, hB9.out.bel⟩
          by_cases d3 : u4 < 1
          · have HD : Hid (outB u3 0 5000 = true ∨ outB u4 1 1000000 = true) := Lib.hid (outU.2 (by omega))
            have g1 : decide (u3 < 0) = false := decide_eq_false d1
            have g2 : decide (u3 > 5000) = false := decide_eq_false d2
            have e5 : Hid (uBad l k = 1) := Lib.hid (by rw [hb2.out, if_neg HN.out, if_pos HD.out])
            go_wp2_with (go_at_call 95; (with_reducible refine (RIsName_any u2 _ φ (HF.out.below hB2.out.bel) HT.out hsu.out hnb).mono ?_); rintro e w9 ⟨rfl, hb9⟩; have hB9 := Lib.hid (hB2.out.callB hb9); clear hb9; obtain ⟨z0, z1, z2, z3⟩ := UbS.cells hB9)
            go_ret
            exact ⟨ret_int (frm_stop hn.out hl hlt hok.out e5.out (by decide)).symm, hB9.out.bel⟩
          by_cases d4 : 1000000 < u4
          · have HD : Hid (outB u3 0 5000 = true ∨ outB u4 1 1000000 = true) := Lib.hid (outU.2 (by omega))
            have g1 : decide (u3 < 0) = false := decide_eq_false d1
            have g2 : decide (u3 > 5000) = false := decide_eq_false d2
            have g3 : decide (u4 < 1) = false := decide_eq_false d3
            have e5 : Hid (uBad l k = 1) := Lib.hid (by rw [hb2.out, if_neg HN.out, if_pos HD.out])
            go_wp2_with (go_at_call 95; (with_reducible refine (RIsName_any u2 _ φ (HF.out.below hB2.out.bel) HT.out hsu.out hnb).mono ?_); rintro e w9 ⟨rfl, hb9⟩; have hB9 := Lib.hid (hB2.out.callB hb9); clear hb9; obtain ⟨z0, z1, z2, z3⟩ := UbS.cells hB9)
            go_ret
            exact ⟨ret_int (frm_stop hn.out hl hlt hok.out e5.out (by decide)).symm, hB9.out.bel⟩
          have e5 : Hid (uBad l k = 0) := Lib.hid (by rw [hb2.out, if_neg HN.out, if_neg (fun q => by have := outU.1 q; omega)])
          have g1 : decide (u3 < 0) = false := decide_eq_false d1
          have g2 : decide (u3 > 5000) = false := decide_eq_false d2
          have g3 : decide (u4 < 1) = false := decide_eq_false d3
          have g4 : decide (u4 > 1000000) = false := decide_eq_false d4
          go_wp2_with (go_at_call 95; (with_reducible refine (RIsName_any u2 _ φ (HF.out.below hB2.out.bel) HT.out hsu.out hnb).mono ?_); rintro e w9 ⟨rfl, hb9⟩; have hB9 := Lib.hid (hB2.out.callB hb9); clear hb9; obtain ⟨z0, z1, z2, z3⟩ := UbS.cells hB9)
          go_roundw
          case rel => exact ⟨k + 1, by omega, by go_num, Lib.hid (next_ok hok.out e5.out), Lib.hid hB9.out.bel⟩
          case measure => (simp [intOf] <;> omega)
    · obtain rfl : n = k := by omega
      have hfe := Lib.hid (frm_end hn.out hl hok.out)
      obtain ⟨q, hq⟩ : ∃ q, Hid ((nmsL l).length = q) := ⟨_, Lib.hid rfl⟩
      rw [hq.out] at hfe
      by_cases h40 : 40 < q
      · have g4 : decide ((q : Int) > 40) = true := decide_eq_true (by omega)
        have H4 : Hid (frmU l = 2) := Lib.hid (by rw [hfe.out, if_pos h40])
        clear h40 hfe
        go_wp2_with (go_at_call 37; (with_reducible refine (Rnames_any (HF.out.below hB.out) s hn hl).mono ?_); rintro e w6 ⟨a6, c6, φ6, rfl, hi6, hs6⟩; rw [hq.out]; have hB6 := Lib.hid (hB.out.trans (hi6.bel.mono hB.out.size)); clear hi6 hs6)
        go_ret
        exact ⟨ret_int H4.out.symm, hB6.out⟩
      · have g4 : decide ((q : Int) > 40) = false := decide_eq_false (by omega)
        have H4 : Hid (frmU l = 0) := Lib.hid (by rw [hfe.out, if_neg h40])
        clear h40 hfe
        go_wp2_with (go_at_call 37; (with_reducible refine (Rnames_any (HF.out.below hB.out) s hn hl).mono ?_); rintro e w6 ⟨a6, c6, φ6, rfl, hi6, hs6⟩; rw [hq.out]; have hB6 := Lib.hid (hB.out.trans (hi6.bel.mono hB.out.size)); clear hi6 hs6)
        go_ret
        exact ⟨ret_int H4.out.symm, hB6.out⟩
end Go.Proofs.YtnlhalnjbkpdnaaGreatDoor

namespace Go.Proofs.YtnlhalnjbkpdnaaGreatDoor
open Go.RowKit Go.Sort
set_option linter.unusedVariables false
set_option linter.unusedSimpArgs false
theorem sum_pre {xs : List Int} (h : ∀ x ∈ xs, 1 ≤ x ∧ x ≤ 1000000) : 0 ≤ xs.sum ∧ xs.sum ≤ 1000000 * (xs.length : Int) := by
  induction xs with
  | nil => exact ⟨Int.le_refl _, Int.le_refl _⟩
  | cons x xs ih =>
    have h1 := h x (by simp)
    have h2 := ih (fun y hy => h y (by simp [hy]))
    rw [List.sum_cons, List.length_cons]
    omega
theorem sum_pres {xs : List Int} {n : Nat} (hn : xs.length = n) (hl : n ≤ 5000) (h : ∀ x ∈ xs, 1 ≤ x ∧ x ≤ 1000000) : ∀ k, k ≤ n → 0 ≤ (xs.take k).sum ∧ (xs.take k).sum ≤ 5000000000 := by
  intro k hk
  have := sum_pre (xs := xs.take k) (fun x hx => h x (List.mem_of_mem_take hx))
  rw [List.length_take] at this
  omega
end Go.Proofs.YtnlhalnjbkpdnaaGreatDoor
