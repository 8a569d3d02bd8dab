/- The walk of value.Check. Conditions: none beyond what the claim form gives. -/
import Derived.Test.YtkfmadeeobalaaaDoorD1
namespace Go.Proofs.YtkfmadeeobalaaaDoor
open Go.RowKit
set_option linter.unusedVariables false
theorem outsideV_b (n lo hi : Int) (w : World) {b : Bool} (h : outB n lo hi = b) :
    Calls Tryd.prog 110 #[.int .i64 n, .int .i64 lo, .int .i64 hi] w fun e w' => e = .returned (.bool b) ∧ w = w' := by
  subst h
  go_enter Tryd.func110, Tryd.ntmps110
  by_cases h : n < lo
  · go_wp2
    go_ret
    exact ⟨by simp [outB, h], rfl⟩
  · go_wp2
    go_ret
    exact ⟨by simp [outB]; omega, rfl⟩
theorem limits_any (k : Int) (w : World) :
    Calls Tryd.prog 122 #[.int .i64 k] w fun e w' => e = .returned (.tuple #[.int .i64 (limL k), .int .i64 (limH k)]) ∧ w = w' := by
  go_enter Tryd.func122, Tryd.ntmps122
  obtain rfl | h1 := Classical.em (k = 1)
  · go_wp2
    go_ret2
    exact ⟨rfl, rfl⟩
  obtain rfl | h2 := Classical.em (k = 2)
  · go_wp2
    go_ret2
    exact ⟨rfl, rfl⟩
  obtain rfl | h4 := Classical.em (k = 4)
  · go_wp2
    go_ret2
    exact ⟨rfl, rfl⟩
  obtain rfl | h6 := Classical.em (k = 6)
  · go_wp2
    go_ret2
    exact ⟨rfl, rfl⟩
  obtain rfl | h7 := Classical.em (k = 7)
  · go_wp2
    go_ret2
    exact ⟨rfl, rfl⟩
  have e1 : (k == 1) = false := by simp [h1]
  have e2 : (k == 2) = false := by simp [h2]
  have e4 : (k == 4) = false := by simp [h4]
  have e6 : (k == 6) = false := by simp [h6]
  have e7 : (k == 7) = false := by simp [h7]
  have L : Hid (limL k = 0) := Lib.hid (by unfold limL; simp [h1, h2, h4, h6])
  have H : Hid (limH k = 0) := Lib.hid (by unfold limH; simp [h1, h2, h4, h6, h7])
  clear h1 h2 h4 h6 h7
  go_wp2
  go_ret2
  exact ⟨by rw [L.out, H.out]; rfl, rfl⟩
theorem unused_any (k n : Int) (s : ByteArray) (a : Option Addr) (nl c : Nat) (l : List Int) (hl : Hid (l.length = nl)) (w : World) {b : Bool} (hb : Hid (unusedB (k, n, s, l) = b)) :
    Calls Tryd.prog 121 #[.agg #[.int .i64 k, .int .i64 n, .string s, .slice a nl c]] w fun e w' => e = .returned (.bool b) ∧ Below w.heap.size w w' := by
  have hb2 := hb.out
  unfold unusedB usesN at hb2
  dsimp only at hb2
  rw [hl.out] at hb2
  obtain ⟨z, hz⟩ : ∃ z, z = decide (0 < s.size) := ⟨_, rfl⟩
  rw [← hz] at hb2
  have he : s.toList.isEmpty = !z := by rw [isEmpty_iff, hz]; by_cases h : s.size = 0 <;> simp [h] <;> omega
  replace hb2 := Lib.hid hb2
  clear hb hz
  cases z
  · replace he : s.toList.isEmpty = true := he
    go_enter Tryd.func121, Tryd.ntmps121
    go_wp2
    all_goals
      go_ret
      exact ⟨ret_bool (by rw [← hb2.out]; clear he; simp_all), (Below.refl _ _).alloc (Nat.le_refl _) _⟩
  · replace he : s.toList.isEmpty = false := he
    go_enter Tryd.func121, Tryd.ntmps121
    go_wp2
    all_goals
      go_ret
      exact ⟨ret_bool (by rw [← hb2.out]; clear he; simp_all), (Below.refl _ _).alloc (Nat.le_refl _) _⟩
set_option maxRecDepth 100000 in
set_option maxHeartbeats 2000000 in
theorem Check_any (k0 n0 : Int) (s : ByteArray) (a : Option Addr) (nl c : Nat) (l : List Int) (w : World) (φ : Phi) (hφ : Fz φ w) (sl : SlV φ a c l) (hl : Hid (l.length = nl)) {q : Int} (hq : Hid (valF (k0, n0, s, l) = q)) :
    Calls Tryd.prog 89 #[.agg #[.int .i64 k0, .int .i64 n0, .string s, .slice a nl c]] w (IntB q w) := by
  have hS0 := Lib.hid (BxSt.new hφ #[.int .i64 k0, .int .i64 n0, .string s, .slice a nl c] 52)
  have hq1 := hq.out
  unfold valF at hq1
  dsimp only at hq1
  rw [hl.out] at hq1
  obtain ⟨o1, ho1⟩ : ∃ o, Hid (outB k0 0 7 = o) := ⟨_, Lib.hid rfl⟩
  obtain ⟨o2, ho2⟩ : ∃ o, Hid (unusedB (k0, n0, s, l) = o) := ⟨_, Lib.hid rfl⟩
  obtain ⟨o3, ho3⟩ : ∃ o, Hid (outB n0 (limL k0) (limH k0) = o) := ⟨_, Lib.hid rfl⟩
  rw [ho1.out, ho2.out, ho3.out] at hq1
  have HQ := Lib.hid hq1
  clear hq hq1
  have hnl := sl.len
  rw [hl.out] at hnl
  have C2 := Lib.hid (unused_any k0 n0 s a nl c l hl (w.alloc (.cells #[.int .i64 k0, .int .i64 n0, .string s, .slice a nl c] 52)) ho2)
  go_enter Tryd.func89, Tryd.ntmps89
  cases o1 with
  | true =>
    have H1 : Hid (q = 4) := Lib.hid (by rw [← HQ.out, if_pos rfl])
    go_wp2_with (go_at_call 110; refine (outsideV_b _ _ _ _ ho1.out).mono ?_; rintro e w' ⟨rfl, rfl⟩)
    go_ret
    exact ⟨ret_int H1.out.symm, hS0.out.bel⟩
  | false =>
  go_wp2_with (go_at_call 110; refine (outsideV_b _ _ _ _ ho1.out).mono ?_; rintro e w' ⟨rfl, rfl⟩)
  refine C2.out.mono ?_
  rintro e W ⟨rfl, hbW⟩
  have HS := Lib.hid (hS0.out.callB hbW)
  clear hbW hS0 C2
  generalize w.heap.size = bx at *
  have x0 : W.cell? ⟨bx, 0, none⟩ = some (.int .i64 k0) := HS.out.k.cell 0
  have x1 : W.cell? ⟨bx, 1, none⟩ = some (.int .i64 n0) := HS.out.k.cell 1
  have x2 : W.cell? ⟨bx, 2, none⟩ = some (.string s) := HS.out.k.cell 2
  have x3 : W.cell? ⟨bx, 3, none⟩ = some (.slice a nl c) := HS.out.k.cell 3
  cases o2 with
  | true =>
    have H1 : Hid (q = 3) := Lib.hid (by rw [← HQ.out, if_neg (by simp), if_pos rfl])
    go_wp2
    go_ret
    exact ⟨ret_int H1.out.symm, HS.out.bel⟩
  | false =>
  cases o3 with
  | true =>
    have H1 : Hid (q = 1) := Lib.hid (by rw [← HQ.out, if_neg (by simp), if_neg (by simp), if_pos rfl])
    go_wp2_with (first | (go_at_call 122; refine (limits_any _ _).mono ?_; rintro e w' ⟨rfl, rfl⟩) | (go_at_call 110; refine (outsideV_b _ _ _ _ ho3.out).mono ?_; rintro e w' ⟨rfl, rfl⟩))
    go_ret
    exact ⟨ret_int H1.out.symm, HS.out.bel⟩
  | false =>
  have hq3 := HQ.out
  rw [if_neg (by simp), if_neg (by simp), if_neg (by simp)] at hq3
  have HQ3 := Lib.hid hq3
  clear HQ hq3
  by_cases hz : 200 < s.size
  · have H1 : Hid (q = 2) := Lib.hid (by rw [← HQ3.out, if_pos (.inl hz)])
    go_wp2_with (first | (go_at_call 122; refine (limits_any _ _).mono ?_; rintro e w' ⟨rfl, rfl⟩) | (go_at_call 110; refine (outsideV_b _ _ _ _ ho3.out).mono ?_; rintro e w' ⟨rfl, rfl⟩))
    go_ret
    exact ⟨ret_int H1.out.symm, HS.out.bel⟩
  by_cases hz2 : 40 < nl
  · have H1 : Hid (q = 2) := Lib.hid (by rw [← HQ3.out, if_pos (.inr hz2)])
    go_wp2_with (first | (go_at_call 122; refine (limits_any _ _).mono ?_; rintro e w' ⟨rfl, rfl⟩) | (go_at_call 110; refine (outsideV_b _ _ _ _ ho3.out).mono ?_; rintro e w' ⟨rfl, rfl⟩))
    go_ret
    exact ⟨ret_int H1.out.symm, HS.out.bel⟩
  have hq4 : Hid (restF s l = q) := Lib.hid (by rw [← HQ3.out, if_neg (fun e => e.elim hz hz2)])
  clear HQ3
  go_wp2_with (first | (go_at_call 122; refine (limits_any _ _).mono ?_; rintro e w' ⟨rfl, rfl⟩) | (go_at_call 110; refine (outsideV_b _ _ _ _ ho3.out).mono ?_; rintro e w' ⟨rfl, rfl⟩))
  go_loop [5] (fun i => ∃ k : Nat, k ≤ s.size ∧ i = .int .i64 k ∧ Hid (∀ i, i < k → chF s i = 0)) (fun i => s.size - (intOf i).toNat)
  case atStart => exact ⟨0, Nat.zero_le _, rfl, none_yet _⟩
  case round =>
    obtain ⟨i, hi, rfl, hok⟩ := hrel
    by_cases hlt : i < s.size
    · have hb := byt_bd s i
      have hek := Lib.hid (byt_eq s i hlt)
      have hcf : Hid (chF s i = if ((s[i]'hlt).toNat : Int) < 32 ∨ 126 < ((s[i]'hlt).toNat : Int) then 1 else 0) := Lib.hid (by unfold chF; rw [hek.out])
      have hd0 : ((s[i]'hlt).toNat : Int) < 256 := by rw [← hek.out]; omega
      have hd1 : 0 ≤ ((s[i]'hlt).toNat : Int) := by omega
      clear hb
      by_cases hc1 : ((s[i]'hlt).toNat : Int) < 32
      · have H1 : Hid (q = 1) := Lib.hid (by
          have e : chF s i = 1 := by rw [hcf.out, if_pos (.inl hc1)]
          rw [← hq4.out, restF_1 hok.out hlt (by rw [e]; decide), e])
        go_wp2
        go_ret
        exact ⟨ret_int H1.out.symm, HS.out.bel⟩
      · by_cases hc2 : 126 < ((s[i]'hlt).toNat : Int)
        · have H1 : Hid (q = 1) := Lib.hid (by
            have e : chF s i = 1 := by rw [hcf.out, if_pos (.inr hc2)]
            rw [← hq4.out, restF_1 hok.out hlt (by rw [e]; decide), e])
          go_wp2
          go_ret
          exact ⟨ret_int H1.out.symm, HS.out.bel⟩
        · have H1 := next_ok hok (by rw [hcf.out, if_neg (fun e => e.elim hc1 hc2)])
          go_wp2
          go_round
          case rel => exact ⟨i + 1, by omega, by go_num, H1⟩
          case measure => (simp [intOf] <;> omega)
    · obtain rfl : i = s.size := by omega
      have HC1 := hok
      go_wp2
      clear hok
      go_loop [57] (fun i => ∃ k : Nat, k ≤ nl ∧ i = .int .i64 k ∧ Hid (∀ i, i < k → stF l i = 0)) (fun i => nl - (intOf i).toNat)
      case atStart => exact ⟨0, Nat.zero_le _, rfl, none_yet _⟩
      case round =>
        obtain ⟨i, hi, rfl, hok⟩ := hrel
        by_cases hlt : i < nl
        · obtain ⟨b1, o1, rfl, f1⟩ := sl.intsD hl hlt
          have d1 := (f1 i hlt W HS.out.fz).2
          have hcf : Hid (stF l i = if outB (l.getD i 0) 1 999 = true then 1 else 0) := Lib.hid rfl
          clear f1
          generalize l.getD i 0 = x at *
          obtain ⟨o, ho⟩ : ∃ o, Hid (outB x 1 999 = o) := ⟨_, Lib.hid rfl⟩
          rw [ho.out] at hcf
          cases o
          case true =>
            have H1 : Hid (q = 1) := Lib.hid (by
              have e : stF l i = 1 := by rw [hcf.out, if_pos rfl]
              rw [← hq4.out, restF_2 HC1.out hok.out (by rw [hl.out]; exact hlt) (by rw [e]; decide), e])
            go_wp2_with (go_at_call 110; refine (outsideV_b _ _ _ _ ho.out).mono ?_; rintro e w' ⟨rfl, rfl⟩)
            go_ret
            exact ⟨ret_int H1.out.symm, HS.out.bel⟩
          case false =>
            have H1 := next_ok hok (by rw [hcf.out, if_neg (by simp)])
            go_wp2_with (go_at_call 110; refine (outsideV_b _ _ _ _ ho.out).mono ?_; rintro e w' ⟨rfl, rfl⟩)
            go_round
            case rel => exact ⟨i + 1, by omega, by go_num, H1⟩
            case measure => (simp [intOf] <;> omega)
        · obtain rfl : i = nl := by omega
          have HC2 := hok
          go_wp2
          clear hok
          go_loopw [8] (fun j wr => ∃ k : Nat, 1 ≤ k ∧ (k ≤ i ∨ k = 1) ∧ j = .int .i64 k ∧ Hid (∀ i, i < k - 1 → orF l i = 0) ∧ Hid (BxSt w φ bx #[.int .i64 k0, .int .i64 n0, .string s, .slice a i c] 52 wr)) (fun j _ => i - (intOf j).toNat)
          case atStart => exact ⟨1, Nat.le_refl _, .inr rfl, rfl, Lib.hid (fun i hi => by omega), HS⟩
          case round =>
            clear HS x3 x2
            obtain ⟨k, h1k, hk, rfl, hok, HS⟩ := hrel
            have x3 : wr.cell? ⟨bx, 3, none⟩ = some (.slice a i c) := HS.out.k.cell 3
            by_cases hlt : k < i
            · obtain ⟨b1, o1, rfl, f1⟩ := sl.intsD hl hlt
              have d1 := (f1 k hlt wr HS.out.fz).2
              have d2 := (f1 (k - 1) (by omega) wr HS.out.fz).2
              have hcf : Hid (orF l (k - 1) = if l.getD k 0 ≤ l.getD (k - 1) 0 then 7 else 0) := Lib.hid (by unfold orF; rw [Nat.sub_add_cancel h1k])
              have hix : 0 ≤ (k : Int) - 1 := by omega
              have hix2 : (k : Int) - 1 < i := by omega
              have hto : ((k : Int) - 1).toNat = k - 1 := by omega
              clear f1
              generalize l.getD k 0 = x at *
              generalize l.getD (k - 1) 0 = y at *
              by_cases hc : x ≤ y
              · have H1 : Hid (q = 7) := Lib.hid (by
                  have e : orF l (k - 1) = 7 := by rw [hcf.out, if_pos hc]
                  rw [← hq4.out, restF_3 HC1.out (by rw [hl.out]; exact HC2.out) hok.out (by rw [hl.out]; omega) (by rw [e]; decide), e])
                go_wp2
                go_quiet (fail)
                go_wp2
                go_ret
                exact ⟨ret_int H1.out.symm, bdrewN HS.out.bel _⟩
              · have H1 : Hid (∀ i, i < k + 1 - 1 → orF l i = 0) := Lib.hid (fun j hj => by
                  by_cases e : j = k - 1
                  · rw [e, hcf.out, if_neg hc]
                  · exact hok.out j (by omega))
                go_wp2
                go_quiet (fail)
                go_wp2
                go_roundw
                case rel => exact ⟨k + 1, by omega, by omega, by go_num, H1, Lib.hid (HS.out.callB (bdrewN (Below.refl _ _) _))⟩
                case measure => (simp [intOf] <;> omega)
            · have H1 : Hid (q = 0) := Lib.hid (by
                rw [← hq4.out]
                exact restF_0 HC1.out (by rw [hl.out]; exact HC2.out) (fun j hj => hok.out j (by rw [hl.out] at hj; omega)))
              go_wp2
              go_ret
              exact ⟨ret_int H1.out.symm, HS.out.bel⟩
end Go.Proofs.YtkfmadeeobalaaaDoor
