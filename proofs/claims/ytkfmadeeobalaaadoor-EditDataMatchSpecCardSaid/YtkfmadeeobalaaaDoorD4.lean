/- The walk of the reference's Check of a value. Conditions: none beyond what the claim form gives. -/
import Derived.Test.YtkfmadeeobalaaaDoorD2
import Derived.Deep.DeepCutAuto
namespace Go.Proofs.YtkfmadeeobalaaaDoor
open Go.RowKit
set_option linter.unusedVariables false
theorem withinV_b (n lo hi : Int) (w : World) {b : Bool} (h : outB n lo hi = b) :
    Calls Tryd.prog 127 #[.int .i64 n, .int .i64 lo, .int .i64 hi] w fun e w' => e = .returned (.bool (!b)) ∧ w = w' := by
  subst h
  go_enter Tryd.func127, Tryd.ntmps127
  by_cases h : lo ≤ n
  · go_wp2
    all_goals
      go_ret
      exact ⟨ret_bool (by unfold outB; rw [Bool.eq_iff_iff]; simp; omega), rfl⟩
  · go_wp2
    all_goals
      go_ret
      exact ⟨ret_bool (by unfold outB; rw [Bool.eq_iff_iff]; simp; omega), rfl⟩
/-- The reference's reading of the bounds. -/
theorem inRange_any (k n : Int) (hu : usesN k = false → n = 0) (h0 : outB k 0 7 = false) (w : World) {b : Bool} (h : outB n (limL k) (limH k) = b) :
    Calls Tryd.prog 128 #[.int .i64 k, .int .i64 n] w fun e w' => e = .returned (.bool (!b)) ∧ w = w' := by
  have hb := Lib.hid h
  have hu := Lib.hid hu
  have h0 := Lib.hid h0
  clear h
  go_enter Tryd.func128, Tryd.ntmps128
  obtain rfl | h1 := Classical.em (k = 1)
  · have H : Hid (outB n 1 3 = b) := Lib.hid hb.out
    go_wp2_with (go_at_call 127; refine (withinV_b _ _ _ _ H.out).mono ?_; rintro e w' ⟨rfl, rfl⟩)
    go_ret
    exact ⟨rfl, rfl⟩
  obtain rfl | h2 := Classical.em (k = 2)
  · have H : Hid (outB n (-999999999999999) 999999999999999 = b) := Lib.hid hb.out
    go_wp2_with (go_at_call 127; refine (withinV_b _ _ _ _ H.out).mono ?_; rintro e w' ⟨rfl, rfl⟩)
    go_ret
    exact ⟨rfl, rfl⟩
  obtain rfl | h4 := Classical.em (k = 4)
  · have H : Hid (outB n 1 999 = b) := Lib.hid hb.out
    go_wp2_with (go_at_call 127; refine (withinV_b _ _ _ _ H.out).mono ?_; rintro e w' ⟨rfl, rfl⟩)
    go_ret
    exact ⟨rfl, rfl⟩
  obtain rfl | h6 := Classical.em (k = 6)
  · have H : Hid (outB n (-25567) 84005 = b) := Lib.hid hb.out
    go_wp2_with (go_at_call 127; refine (withinV_b _ _ _ _ H.out).mono ?_; rintro e w' ⟨rfl, rfl⟩)
    go_ret
    exact ⟨rfl, rfl⟩
  obtain rfl | h7 := Classical.em (k = 7)
  · have H : Hid (outB n 0 1 = b) := Lib.hid hb.out
    go_wp2_with (go_at_call 127; refine (withinV_b _ _ _ _ H.out).mono ?_; rintro e w' ⟨rfl, rfl⟩)
    go_ret
    exact ⟨rfl, rfl⟩
  have e1 : (k == 1) = false := by simp [h1]
  have e2 : (k == 2) = false := by simp [h2]
  have e4 : (k == 4) = false := by simp [h4]
  have e6 : (k == 6) = false := by simp [h6]
  have e7 : (k == 7) = false := by simp [h7]
  have hn : n = 0 := hu.out (by
    have := h0.out
    unfold outB at this
    simp at this
    unfold usesN
    rw [Bool.and_eq_false_iff, Bool.and_eq_false_iff]
    simp
    omega)
  have H : Hid (b = false) := Lib.hid (by
    rw [← hb.out, hn]
    unfold limL limH outB
    simp [h1, h2, h4, h6, h7])
  clear h1 h2 h4 h6 h7 hn
  go_wp2
  go_ret
  exact ⟨by rw [H.out]; rfl, rfl⟩
def usesR (k : Int) : Bool := decide (k = 1) || decide (k = 2) || decide (k = 4) || decide (k = 6) || decide (k = 7)
theorem usesR_eq {k : Int} (h : outB k 0 7 = false) : usesR k = usesN k := by
  unfold outB at h
  simp at h
  unfold usesR usesN
  rw [Bool.eq_iff_iff]
  simp
  omega
set_option maxRecDepth 100000 in
set_option maxHeartbeats 2000000 in
theorem RCheck_any (k0 n0 : Int) (s : ByteArray) (a : Option Addr) (nl c : Nat) (l : List Int) (w : World) (φ : Phi) (hφ : Fz φ w) (sl : SlV φ a c l) (hl : Hid (l.length = nl)) {q : Int} (hq : Hid (valF (k0, n0, s, l) = q)) :
    Calls Tryd.prog 92 #[.agg #[.int .i64 k0, .int .i64 n0, .string s, .slice a nl c]] w (IntB q w) := by
  have hS0 := Lib.hid (BxSt.new hφ #[.int .i64 k0, .int .i64 n0, .string s, .slice a nl c] 52)
  have hq1 := hq.out
  unfold valF at hq1
  dsimp only at hq1
  rw [hl.out] at hq1
  obtain ⟨o1, ho1⟩ : ∃ o, Hid (outB k0 0 7 = o) := ⟨_, Lib.hid rfl⟩
  obtain ⟨o2, ho2⟩ : ∃ o, Hid (unusedB (k0, n0, s, l) = o) := ⟨_, Lib.hid rfl⟩
  obtain ⟨o3, ho3⟩ : ∃ o, Hid (outB n0 (limL k0) (limH k0) = o) := ⟨_, Lib.hid rfl⟩
  rw [ho1.out, ho2.out, ho3.out] at hq1
  have HQ := Lib.hid hq1
  clear hq hq1
  have hnl := sl.len
  rw [hl.out] at hnl
  go_enter Tryd.func92, Tryd.ntmps92
  go_upto_region 1 with fail
  generalize w.alloc (.cells #[.int .i64 k0, .int .i64 n0, .string s, .slice a nl c] 52) = W at *
  generalize w.heap.size = bx at *
  have HS := hS0
  clear hS0
  have x0 : W.cell? ⟨bx, 0, none⟩ = some (.int .i64 k0) := HS.out.k.cell 0
  have x1 : W.cell? ⟨bx, 1, none⟩ = some (.int .i64 n0) := HS.out.k.cell 1
  have x2 : W.cell? ⟨bx, 2, none⟩ = some (.string s) := HS.out.k.cell 2
  have x3 : W.cell? ⟨bx, 3, none⟩ = some (.slice a nl c) := HS.out.k.cell 3
  go_cut [0, 3] (fun s0 s3 wc => s0 = .agg #[.int .i64 k0, .int .i64 n0, .string s, .slice a nl c] ∧ s3 = .bool (usesR k0) ∧ W = wc)
  case first =>
    go_wp2
    all_goals
      go_meet
      case rel => exact ⟨by first | rfl | (simp_all; done), congrArg Value.bool (by first | rfl | (unfold usesR; rw [Bool.eq_iff_iff]; simp; omega)), rfl⟩
  case rest =>
  obtain ⟨rfl, rfl, rfl⟩ := hcut
  cases o1 with
  | true =>
    have H1 : Hid (q = 4) := Lib.hid (by rw [← HQ.out, if_pos rfl])
    go_wp2_with (go_at_call 127; refine (withinV_b _ _ _ _ ho1.out).mono ?_; rintro e w' ⟨rfl, rfl⟩)
    go_ret
    exact ⟨ret_int H1.out.symm, HS.out.bel⟩
  | false =>
  rw [usesR_eq ho1.out]
  go_upto_region 4 with (go_at_call 127; refine (withinV_b _ _ _ _ ho1.out).mono ?_; rintro e w' ⟨rfl, rfl⟩)
  obtain ⟨z, hz⟩ : ∃ z, z = decide (0 < s.size) := ⟨_, rfl⟩
  have he : s.toList.isEmpty = !z := by rw [isEmpty_iff, hz]; by_cases h : s.size = 0 <;> simp [h] <;> omega
  have hu2 := ho2.out
  unfold unusedB at hu2
  dsimp only at hu2
  rw [← hz, hl.out] at hu2
  obtain ⟨un, hun⟩ : ∃ u, Hid (usesN k0 = u) := ⟨_, Lib.hid rfl⟩
  rw [hun.out] at hu2 ⊢
  have HU2 := Lib.hid hu2
  clear hu2 hz
  go_cut [0, 3, 36] (fun s0 s3 s36 wc => s0 = .agg #[.int .i64 k0, .int .i64 n0, .string s, .slice a nl c] ∧ s3 = .bool un ∧ s36 = .bool o2 ∧ W = wc)
  case first =>
    cases z
    · replace he : s.toList.isEmpty = true := he
      go_wp2
      all_goals
        go_meet
        case rel => exact ⟨by simp_all, by simp_all, by rw [← HU2.out]; clear he; simp_all, rfl⟩
    · replace he : s.toList.isEmpty = false := he
      go_wp2
      all_goals
        go_meet
        case rel => exact ⟨by simp_all, by simp_all, by rw [← HU2.out]; clear he; simp_all, rfl⟩
  case rest =>
  obtain ⟨rfl, rfl, rfl, rfl⟩ := hcut
  clear he
  cases o2 with
  | true =>
    have H1 : Hid (q = 3) := Lib.hid (by rw [← HQ.out, if_neg (by simp), if_pos rfl])
    go_wp2
    go_ret
    exact ⟨ret_int H1.out.symm, HS.out.bel⟩
  | false =>
  have hus : usesN k0 = false → n0 = 0 := fun h => by
    have h2 := ho2.out
    unfold unusedB at h2
    dsimp only at h2
    rw [h] at h2
    exact Classical.byContradiction fun e => by simp [e] at h2
  have HR := Lib.hid (fun (w : World) => inRange_any k0 n0 hus ho1.out w ho3.out)
  clear hus HU2
  cases o3 with
  | true =>
    have H1 : Hid (q = 1) := Lib.hid (by rw [← HQ.out, if_neg (by simp), if_neg (by simp), if_pos rfl])
    go_wp2_with (go_at_call 128; refine (HR.out _).mono ?_; rintro e w' ⟨rfl, rfl⟩)
    go_ret
    exact ⟨ret_int H1.out.symm, HS.out.bel⟩
  | false =>
  have hq3 := HQ.out
  rw [if_neg (by simp), if_neg (by simp), if_neg (by simp)] at hq3
  have HQ3 := Lib.hid hq3
  clear HQ hq3
  by_cases hz : 200 < s.size
  · have H1 : Hid (q = 2) := Lib.hid (by rw [← HQ3.out, if_pos (.inl hz)])
    go_wp2_with (go_at_call 128; refine (HR.out _).mono ?_; rintro e w' ⟨rfl, rfl⟩)
    go_ret
    exact ⟨ret_int H1.out.symm, HS.out.bel⟩
  by_cases hz2 : 40 < nl
  · have H1 : Hid (q = 2) := Lib.hid (by rw [← HQ3.out, if_pos (.inr hz2)])
    go_wp2_with (go_at_call 128; refine (HR.out _).mono ?_; rintro e w' ⟨rfl, rfl⟩)
    go_ret
    exact ⟨ret_int H1.out.symm, HS.out.bel⟩
  have hq4 : Hid (restF s l = q) := Lib.hid (by rw [← HQ3.out, if_neg (fun e => e.elim hz hz2)])
  clear HQ3
  go_wp2_with (go_at_call 128; refine (HR.out _).mono ?_; rintro e w' ⟨rfl, rfl⟩)
  go_loop [86] (fun i => ∃ k : Nat, k ≤ s.size ∧ i = .int .i64 k ∧ Hid (∀ i, i < k → chF s i = 0)) (fun i => s.size - (intOf i).toNat)
  case atStart => exact ⟨0, Nat.zero_le _, rfl, none_yet _⟩
  case round =>
    obtain ⟨i, hi, rfl, hok⟩ := hrel
    by_cases hlt : i < s.size
    · have hb := byt_bd s i
      have hek := Lib.hid (byt_eq s i hlt)
      have hcf : Hid (chF s i = if ((s[i]'hlt).toNat : Int) < 32 ∨ 126 < ((s[i]'hlt).toNat : Int) then 1 else 0) := Lib.hid (by unfold chF; rw [hek.out])
      have hd0 : ((s[i]'hlt).toNat : Int) < 256 := by rw [← hek.out]; omega
      have hd1 : 0 ≤ ((s[i]'hlt).toNat : Int) := by omega
      clear hb
      by_cases hc1 : ((s[i]'hlt).toNat : Int) < 32
      · have H1 : Hid (q = 1) := Lib.hid (by
          have e : chF s i = 1 := by rw [hcf.out, if_pos (.inl hc1)]
          rw [← hq4.out, restF_1 hok.out hlt (by rw [e]; decide), e])
        go_wp2
        go_ret
        exact ⟨ret_int H1.out.symm, HS.out.bel⟩
      · by_cases hc2 : 126 < ((s[i]'hlt).toNat : Int)
        · have H1 : Hid (q = 1) := Lib.hid (by
            have e : chF s i = 1 := by rw [hcf.out, if_pos (.inr hc2)]
            rw [← hq4.out, restF_1 hok.out hlt (by rw [e]; decide), e])
          go_wp2
          go_ret
          exact ⟨ret_int H1.out.symm, HS.out.bel⟩
        · have H1 := next_ok hok (by rw [hcf.out, if_neg (fun e => e.elim hc1 hc2)])
          go_wp2
          go_round
          case rel => exact ⟨i + 1, by omega, by go_num, H1⟩
          case measure => (simp [intOf] <;> omega)
    · obtain rfl : i = s.size := by omega
      have HC1 := hok
      go_wp2
      clear hok
      go_loop [105] (fun i => ∃ k : Nat, k ≤ nl ∧ i = .int .i64 k ∧ Hid (∀ i, i < k → stF l i = 0)) (fun i => nl - (intOf i).toNat)
      case atStart => exact ⟨0, Nat.zero_le _, rfl, none_yet _⟩
      case round =>
        obtain ⟨i, hi, rfl, hok⟩ := hrel
        by_cases hlt : i < nl
        · obtain ⟨b1, o1, rfl, f1⟩ := sl.intsD hl hlt
          have d1 := (f1 i hlt W HS.out.fz).2
          have hcf : Hid (stF l i = if outB (l.getD i 0) 1 999 = true then 1 else 0) := Lib.hid rfl
          clear f1
          generalize l.getD i 0 = x at *
          obtain ⟨o, ho⟩ : ∃ o, Hid (outB x 1 999 = o) := ⟨_, Lib.hid rfl⟩
          rw [ho.out] at hcf
          cases o
          case true =>
            have H1 : Hid (q = 1) := Lib.hid (by
              have e : stF l i = 1 := by rw [hcf.out, if_pos rfl]
              rw [← hq4.out, restF_2 HC1.out hok.out (by rw [hl.out]; exact hlt) (by rw [e]; decide), e])
            go_wp2_with (go_at_call 127; refine (withinV_b _ _ _ _ ho.out).mono ?_; rintro e w' ⟨rfl, rfl⟩)
            go_ret
            exact ⟨ret_int H1.out.symm, HS.out.bel⟩
          case false =>
            have H1 := next_ok hok (by rw [hcf.out, if_neg (by simp)])
            go_wp2_with (go_at_call 127; refine (withinV_b _ _ _ _ ho.out).mono ?_; rintro e w' ⟨rfl, rfl⟩)
            go_round
            case rel => exact ⟨i + 1, by omega, by go_num, H1⟩
            case measure => (simp [intOf] <;> omega)
        · obtain rfl : i = nl := by omega
          have HC2 := hok
          go_wp2
          clear hok
          go_loopw [7] (fun j wr => ∃ k : Nat, 1 ≤ k ∧ (k ≤ i ∨ k = 1) ∧ j = .int .i64 k ∧ Hid (∀ i, i < k - 1 → orF l i = 0) ∧ Hid (BxSt w φ bx #[.int .i64 k0, .int .i64 n0, .string s, .slice a i c] 52 wr)) (fun j _ => i - (intOf j).toNat)
          case atStart => exact ⟨1, Nat.le_refl _, .inr rfl, rfl, Lib.hid (fun i hi => by omega), HS⟩
          case round =>
            clear HS x3 x2
            obtain ⟨k, h1k, hk, rfl, hok, HS⟩ := hrel
            have x3 : wr.cell? ⟨bx, 3, none⟩ = some (.slice a i c) := HS.out.k.cell 3
            by_cases hlt : k < i
            · obtain ⟨b1, o1, rfl, f1⟩ := sl.intsD hl hlt
              have d1 := (f1 k hlt wr HS.out.fz).2
              have d2 := (f1 (k - 1) (by omega) wr HS.out.fz).2
              have hcf : Hid (orF l (k - 1) = if l.getD k 0 ≤ l.getD (k - 1) 0 then 7 else 0) := Lib.hid (by unfold orF; rw [Nat.sub_add_cancel h1k])
              have hix : 0 ≤ (k : Int) - 1 := by omega
              have hix2 : (k : Int) - 1 < i := by omega
              have hto : ((k : Int) - 1).toNat = k - 1 := by omega
              clear f1
              generalize l.getD k 0 = x at *
              generalize l.getD (k - 1) 0 = y at *
              by_cases hc : x ≤ y
              · have H1 : Hid (q = 7) := Lib.hid (by
                  have e : orF l (k - 1) = 7 := by rw [hcf.out, if_pos hc]
                  rw [← hq4.out, restF_3 HC1.out (by rw [hl.out]; exact HC2.out) hok.out (by rw [hl.out]; omega) (by rw [e]; decide), e])
                go_wp2
                go_quiet (fail)
                go_wp2
                go_ret
                exact ⟨ret_int H1.out.symm, bdrewN HS.out.bel _⟩
              · have H1 : Hid (∀ i, i < k + 1 - 1 → orF l i = 0) := Lib.hid (fun j hj => by
                  by_cases e : j = k - 1
                  · rw [e, hcf.out, if_neg hc]
                  · exact hok.out j (by omega))
                go_wp2
                go_quiet (fail)
                go_wp2
                go_roundw
                case rel => exact ⟨k + 1, by omega, by omega, by go_num, H1, Lib.hid (HS.out.callB (bdrewN (Below.refl _ _) _))⟩
                case measure => (simp [intOf] <;> omega)
            · have H1 : Hid (q = 0) := Lib.hid (by
                rw [← hq4.out]
                exact restF_0 HC1.out (by rw [hl.out]; exact HC2.out) (fun j hj => hok.out j (by rw [hl.out] at hj; omega)))
              go_wp2
              go_ret
              exact ⟨ret_int H1.out.symm, HS.out.bel⟩
end Go.Proofs.YtkfmadeeobalaaaDoor
