/- The reference's reading of digits: the walks of number and readNatural. The reference's reading of ratios: the walks of CheckRatio and ShortRatio. Conditions: the library's table of powers of ten reads as it was laid. Conditions: none beyond what the claim form gives. -/
import Derived.Test.YtmlpjffnmkndoaaGreatDoorBC
import Derived.Test.YtmlpjffnmkndoaaGreatDoorPB
import Derived.Test.YtmlpjffnmkndoaaGreatDoorSh3
import Derived.Lib.AtoiErrMem
import Derived.Deep.DeepCutAuto
import Derived.Test.YtmlpjffnmkndoaaGreatDoorB9
import Derived.Test.YtmlpjffnmkndoaaGreatDoorPC
import Derived.Test.YtmlpjffnmkndoaaGreatDoorP12
namespace Go.Proofs.YtmlpjffnmkndoaaGreatDoor
open Go.RowKit
set_option linter.unusedVariables false
set_option linter.unusedSimpArgs false
theorem ext_drop (t : ByteArray) {j : Nat} (h : j ≤ t.size) : (t.extract j t.size).data.toList = t.data.toList.drop j ∧ (t.extract j t.size).size = t.size - j := by
 refine ⟨?_, ?_⟩
 ·rw [ByteArray.data_extract]
  have : t.data.size = t.size := rfl
  simp [this]
  rw [List.take_of_length_le (by simp)]
 ·rw [ByteArray.size_extract]; omega
theorem Atoi_any {s : ByteArray} (hd : Hid (AllD s)) (h0 : s.size ≠ 0) (hl : s.size ≤ 18) {v : Nat} (hv : Hid (dV s.data.toList = v)) (w : World) :
  Calls Tryz.prog 101 #[.string s] w (fun e w' => e = .returned (.tuple #[.int .i64 (v : Int), .nilIface]) ∧ Below w.heap.size w w') := by
 have hne : s.data.toList ≠ [] := fun e => h0 (by show s.data.size = 0; rw [← Array.length_toList, e]; rfl)
 refine (Tryz.strconv_Atoi s (v : Int) hl (by rw [atoi_dV hd.out hne, hv.out]) w).mono ?_
 rintro e w' ⟨rfl, t, rfl⟩
 exact ⟨rfl, Lib.bytesWorld_below _ _ _⟩
set_option maxHeartbeats 1000000 in
theorem number_any {s : ByteArray} (hs : s.size ≤ 9223372036854775807) {b : Bool} (hb : Hid (numB s = b)) (w : World) :
    Calls Tryz.prog 49 #[.string s] w (fun e w' => e = .returned (.bool b) ∧ w = w') := by
  by_cases h0 : s.size = 0
  · have he : s.toList = [] := (toList_nil s).2 h0
    have hq : Hid (b = false) := Lib.hid (by rw [← hb.out]; exact numB_false (fun h => h.1 h0))
    clear h0
    go_enter Tryz.func49, Tryz.ntmps49
    go_wp2
    go_ret
    exact ⟨ret_bool hq.out.symm, rfl⟩
  have he : ¬ s.toList = [] := fun e => h0 ((toList_nil s).1 e)
  have hpos : 0 < s.size := by omega
  have H0 := Lib.hid h0
  clear h0
  by_cases h48 : ((s[0]'hpos).toNat : Int) = 48 ∧ ¬ (s.toList == [48]) = true
  · obtain ⟨h48, h1⟩ := h48
    have hq : Hid (b = false) := Lib.hid (by
      rw [← hb.out]
      refine numB_false (fun h => ?_)
      rcases h.2.2 with q | q
      · apply q
        rw [bat s hpos]
        exact UInt8.toNat_inj.1 (by have : (s[0]'hpos).toNat = 48 := by omega
                                    rw [this]; rfl)
      · apply h1
        rw [ByteArray.toList_eq, q]; rfl)
    have h1' : (s.toList == [48]) = false := by cases h : (s.toList == [48]); rfl; exact absurd h h1
    have h1n : (s.toList != [48]) = true := by rw [bne, h1']; rfl
    clear h1
    go_enter Tryz.func49, Tryz.ntmps49
    go_wp2
    go_ret
    exact ⟨ret_bool hq.out.symm, rfl⟩
  have hlead : Hid (s.data.toList.getD 0 0 ≠ 48 ∨ s.data.toList = [48]) := Lib.hid (by
    refine Classical.byContradiction fun e => h48 ⟨?_, fun q => e (.inr ?_)⟩
    · have e1 : s.data.toList.getD 0 0 = 48 := Classical.byContradiction fun q => e (.inl q)
      rw [bat s hpos] at e1
      rw [e1]; rfl
    · rw [ByteArray.toList_eq] at q; exact eq_of_beq q)
  go_enter Tryz.func49, Tryz.ntmps49
  go_upto_region 1 with fail
  go_cut [14] (fun c wc => c = .bool false ∧ w = wc)
  case first =>
    by_cases h1 : ((s[0]'hpos).toNat : Int) = 48
    · have h2 : (s.toList == [48]) = true := Classical.byContradiction fun e => h48 ⟨h1, e⟩
      have h2n : (s.toList != [48]) = false := by rw [bne, h2]; rfl
      clear h48
      go_wp2
      go_meet
      case rel => exact ⟨congrArg Value.bool (isEmpty_false he), rfl⟩
    · clear h48
      go_wp2
      go_meet
      case rel => exact ⟨congrArg Value.bool (isEmpty_false he), rfl⟩
  case rest =>
  obtain ⟨rfl, rfl⟩ := hcut
  clear h48 he
  go_wp2
  go_loop [17] (fun v => ∃ k : Nat, k ≤ s.size ∧ v = .int .i64 (k : Int) ∧ Hid (∀ j, j < k → isD (s.data.toList.getD j 0))) (fun v => s.size - (intOf v).toNat)
  case atStart => exact ⟨0, Nat.zero_le _, rfl, Lib.hid (fun j hj => by omega)⟩
  case round =>
    obtain ⟨k, hk, rfl, hok⟩ := hrel
    by_cases hlt : k < s.size
    · have hbt := Lib.hid (bat s hlt)
      by_cases h1 : ((s[k]'hlt).toNat : Int) < 48
      · have hq : Hid (b = false) := Lib.hid (by
          rw [← hb.out]
          exact numB_false (fun h => by have := (h.2.1 _ (bmem s hlt)).1; omega))
        go_wp2
        go_ret
        exact ⟨ret_bool hq.out.symm, rfl⟩
      · by_cases h2 : (57 : Int) < ((s[k]'hlt).toNat : Int)
        · have hq : Hid (b = false) := Lib.hid (by
            rw [← hb.out]
            exact numB_false (fun h => by have := (h.2.1 _ (bmem s hlt)).2; omega))
          go_wp2
          go_ret
          exact ⟨ret_bool hq.out.symm, rfl⟩
        · have hn : Hid (∀ j, j < k + 1 → isD (s.data.toList.getD j 0)) := Lib.hid (fun j hj => by
            by_cases e : j = k
            · rw [e, hbt.out]; exact ⟨by omega, by omega⟩
            · exact hok.out j (by omega))
          go_wp2
          go_round
          case rel => exact ⟨k + 1, by omega, by go_num, hn⟩
          case measure => (simp [intOf] <;> omega)
    · obtain rfl : k = s.size := by omega
      have hq : Hid (b = true) := Lib.hid (by
        rw [← hb.out]
        refine numB_true ⟨H0.out, fun c hc => ?_, hlead.out⟩
        obtain ⟨j, hj, rfl⟩ := List.getElem_of_mem hc
        have := hok.out j hj
        rwa [getD_elem0 0 _ _ hj] at this)
      go_wp2
      go_ret
      exact ⟨ret_bool hq.out.symm, rfl⟩
set_option maxRecDepth 100000 in
set_option maxHeartbeats 2000000 in
theorem readNat_any {s : ByteArray} (hs : s.size ≤ 2000000000) (hd : Hid (AllD s)) {v : Nat} (hv : Hid (dV s.data.toList = v)) {w : World} {φ : Phi} (hφ : Fz φ w) :
  Calls Tryz.prog 51 #[.string s] w (NatI v φ w) := by
 have hS0 : Hid (OwSt w φ 3 none 0 ([] : List Nat) w) := Lib.hid ⟨Inv.start hφ, Own.nil _ _ _ _⟩
 have hR0 := Lib.hid (RdI.start s.data.toList)
 clear hφ
 go_enter Tryz.func51, Tryz.ntmps51
 go_wp2
 go_loopw [0, 3] (fun sv ov wr => ∃ (t : ByteArray) (os : List Nat) (ao : Option Addr) (co : Nat), sv = .string t ∧ ov = .slice ao os.length co ∧ t.size ≤ s.size ∧ (0 < t.size → 9 * os.length + t.size ≤ s.size) ∧ 9 * os.length ≤ s.size + 9 ∧ Hid (t.data.toList = s.data.toList.take t.size) ∧ Hid (RdI s.data.toList os t.size) ∧ Hid (OwSt w φ 3 ao co os wr)) (fun sv _ _ => strN sv)
 case atStart => exact ⟨s, [], none, 0, rfl, rfl, Nat.le_refl _, fun _ => by simp, by simp, Lib.hid (List.take_of_length_le (Nat.le_refl _)).symm, hR0, hS0⟩
 case round =>
  clear hS0 hR0
  obtain ⟨t, os, ao, co, rfl, rfl, hts, hol1, hol, htt, hR, hS⟩ := hrel
  by_cases hpos : 0 < t.size
  ·have hol2 := hol1 hpos
   obtain ⟨j, hj⟩ : ∃ j, j = t.size - 9 := ⟨_, rfl⟩
   have hmx : Hid (max ((t.size : Int) - 9) (0 : Int) = (j : Int)) := Lib.hid (by omega)
   have hj1 : j ≤ t.size := by omega
   have hj2 : j < t.size := by omega
   have hj3 : t.size ≤ j + 9 := by omega
   have hj4 : 0 < j → j + 9 ≤ t.size := by omega
   have hdt : Hid (∀ c ∈ t.data.toList, isD c) := Lib.hid (fun c hc => hd.out c (by rw [htt.out] at hc; exact List.mem_of_mem_take hc))
   have hlimb : dV (t.data.toList.drop j) < 1000000000 := by
    have := RdI.limb (k := t.size) hd.out hR.out.le
    rw [← htt.out, ← hj] at this; exact this
   have hR2 := hR.out.next hd.out
   rw [← htt.out, ← hj] at hR2
   obtain ⟨l, hl⟩ : ∃ l, dV (t.data.toList.drop j) = l := ⟨_, rfl⟩
   rw [hl] at hR2 hlimb
   have HR2 := Lib.hid hR2
   have hd1 := (ext_drop t hj1).1
   have hd2 := (ext_drop t hj1).2
   have hx1 := (ext_take t hj1).1
   have hx2 := (ext_take t hj1).2
   obtain ⟨u, hu⟩ : ∃ u, t.extract j t.size = u := ⟨_, rfl⟩
   obtain ⟨t', ht'⟩ : ∃ t', t.extract 0 j = t' := ⟨_, rfl⟩
   rw [hu] at hd1 hd2
   rw [ht'] at hx1 hx2
   have hu0 : 0 < u.size := by omega
   have hu18 : u.size ≤ 18 := by omega
   have hud : Hid (AllD u) := Lib.hid (fun c hc => hdt.out c (by rw [hd1] at hc; exact List.mem_of_mem_drop hc))
   have huv : Hid (dV u.data.toList = l) := Lib.hid (by rw [hd1, hl])
   have htt2 : Hid (t'.data.toList = s.data.toList.take t'.size) := Lib.hid (by rw [hx1, hx2, htt.out, List.take_take, Nat.min_eq_left hj1])
   have hR3 : Hid (RdI s.data.toList (os ++ [l]) t'.size) := Lib.hid (by rw [hx2]; exact HR2.out)
   have hs1 : t'.size ≤ s.size := by omega
   have hs2 : 9 * (os.length + 1) ≤ s.size + 9 := by omega
   have hs4 : 0 < t'.size → 9 * (os.length + 1) + t'.size ≤ s.size := by omega
   have hs3 : t'.size < t.size := by omega
   have HU := Lib.hid hu
   have HT := Lib.hid ht'
   have HS := Lib.hid hS.out.inv
   have HO := Lib.hid hS.out.own
   clear hR2 hR hj hx1 hx2 hd1 hd2 HR2 hl hu ht' hS
   go_upto_region 4 with fail
   rw [hmx.out]
   go_wp2_with (first
    | (go_at_call 101; rw [HU.out]; (with_reducible refine (Atoi_any hud (by omega) hu18 huv _).mono ?_); rintro e w1 ⟨rfl, hb⟩; have hin := Lib.hid (HS.out.callB hb); have hon := Lib.hid (HO.out.callB hb); clear hb)
    | (at_builtin; (refine wpList_app1F (α := Nat) rfl _ _ 34 rfl slNatI hin.out ao co _ hon.out _ _ l rfl rfl 1 rfl (by omega) ?_; intro a8 c8 w8 hi8 ho8 hg8 hf8)))
   rw [HT.out]
   go_roundw
   case rel => exact ⟨t', os ++ [l], a8, c8, rfl, by simp, hs1, by rw [List.length_append]; exact hs4, by rw [List.length_append]; exact hs2, htt2, hR3, Lib.hid ⟨hi8, ho8⟩⟩
   case measure => exact hs3
  ·have h0 : t.size = 0 := by omega
   rw [h0] at hR
   have hdn : Hid (LV os = v) := Lib.hid (by rw [hR.out.done, hv.out])
   have hL := Lib.hid hR.out.lim
   obtain ⟨φ', _, hi', hs', _⟩ := hS.out.own.release hS.out.inv
   have HS' := Lib.hid hs'
   have HI' := Lib.hid hi'
   obtain ⟨n, hn⟩ : ∃ n, os.length = n := ⟨_, rfl⟩
   rw [hn] at hol ⊢
   have HN := Lib.hid hn
   obtain ⟨q, hq⟩ : ∃ q, Hid ((limbs (LV os)).length = q) := ⟨_, Lib.hid rfl⟩
   clear hR hS hi' hs' htt h0 hn
   go_wp2_with (go_at_call 102; refine (Rtrim_any HI'.out.fz HS'.out HN (by omega) hL hq).mono ?_; rintro e w' ⟨rfl, rfl⟩)
   go_ret
   refine ⟨ao, co, φ', ?_, HI'.out, HS'.out.trimI hL.out hdn.out⟩
   rw [← hdn.out, hq.out]; rfl
end Go.Proofs.YtmlpjffnmkndoaaGreatDoor

namespace Go.Proofs.YtmlpjffnmkndoaaGreatDoor
open Go.RowKit
set_option linter.unusedVariables false
set_option linter.unusedSimpArgs false
theorem neg0_iff (n : ByteArray) : n.data.toList = [45, 48] ↔ (negB n = true ∧ (bodyB n).data.toList = [48]) := by
  unfold negB bodyB Lib.trimPrefix Lib.hasPrefix
  constructor
  · intro h; rw [h]; exact ⟨by decide, by rfl⟩
  · rintro ⟨h1, h2⟩
    rw [h1] at h2
    simp only [if_true] at h2
    cases hl : n.data.toList with
    | nil => rw [hl] at h1; exact absurd h1 (by decide)
    | cons c l =>
      rw [hl] at h1 h2
      have hc : c = 45 := by
        simp [List.isPrefixOf] at h1
        exact h1.symm
      have h3 : l = [48] := by simpa using h2
      rw [hc, h3]
theorem dec_one {G : Nat} : (decB G).data.toList = [49] ↔ G = 1 := by
 rw [decB_bl, bl_list]
 constructor
 ·intro h
  by_cases h10 : G < 10
  ·rw [dec_lt h10] at h
   injection h with h
   have h2 : (dg G).toNat = 49 := by rw [h]; rfl
   unfold dg at h2
   have : G = 0 ∨ G = 1 ∨ G = 2 ∨ G = 3 ∨ G = 4 ∨ G = 5 ∨ G = 6 ∨ G = 7 ∨ G = 8 ∨ G = 9 := by omega
   rcases this with rfl | rfl | rfl | rfl | rfl | rfl | rfl | rfl | rfl | rfl <;> first | rfl | (exfalso; revert h2; decide)
  ·rw [dec_ge h10] at h
   have := congrArg List.length h
   have h3 := dec_pos (G / 10)
   rw [List.length_append, List.length_singleton, List.length_singleton] at this
   omega
 ·intro h; rw [h, dec_lt (by decide)]; rfl
theorem box2 {φ φ' : Phi} {W : World} {b : Nat} {T : TypeId} {u0 u1 : Value} (hb : φ b = some (.cells #[u0, u1] T)) (hl : φ.le φ') (hf : Fz φ' W) : W.cell? ⟨b, 0, none⟩ = some u0 ∧ W.cell? ⟨b, 1, none⟩ = some u1 := ⟨box_cell hb hl hf 0, box_cell hb hl hf 1⟩
set_option maxRecDepth 100000 in
set_option maxHeartbeats 4000000 in
theorem RCheckRatio_any {M : Nat} (hM : LenB M) (hM2 : p10 2000 ≤ M) {n d : ByteArray} (hn : n.size ≤ 9223372036854775807) (hd : d.size ≤ 9223372036854775807) {f : Int} (hf : Hid (ratF n d = f)) {w : World} {φ : Phi} (hφ : Fz φ w) (hp : PowP φ) :
    Calls Tryz.prog 14 #[.agg #[.string n, .string d]] w (fun e w' => e = .returned (.int .i64 f) ∧ Below w.heap.size w w') := by
  obtain ⟨φ1, hle1, hi1, hb1⟩ := (Inv.start hφ).frz (.cells #[.string n, .string d] 32)
  have hI := Lib.hid hi1
  have HB := Lib.hid hb1
  have HP := Lib.hid (hp.mono hle1)
  obtain ⟨B, hB⟩ : ∃ B, Hid (bodyB n = B) := ⟨_, Lib.hid rfl⟩
  have hs1 : B.size ≤ 9223372036854775807 := by rw [← hB.out]; exact Nat.le_trans (bodyB_size n) hn
  have hs2 := hd
  obtain ⟨x0, x1⟩ := box2 HB.out φ1.le_refl hI.out.fz
  have H45 := Lib.hid (neg0_iff n)
  rw [hB.out] at H45
  clear hle1 hi1 hb1 hφ hp
  by_cases h1 : 2000 < B.size ∨ 2000 < d.size
  · have HQ : Hid (2 = f) := Lib.hid (by rw [← hf.out, ratF_large (by rw [hB.out]; exact h1)])
    obtain ⟨b1, hb1⟩ : ∃ b, Hid (numB B = b) := ⟨_, Lib.hid rfl⟩
    obtain ⟨b2, hb2⟩ : ∃ b, Hid (numB d = b) := ⟨_, Lib.hid rfl⟩
    clear hf H45
    by_cases g1 : 2000 < B.size
    · have g1i : (2000 : Int) < (B.size : Int) := by omega
      clear h1 g1
      go_enter Tryz.func14, Tryz.ntmps14
      go_wp2_with (first
        | (go_at_call 48; (with_reducible refine (trimPx hB _).mono ?_); rintro e w' ⟨rfl, rfl⟩)
        | (go_at_call 49; (with_reducible refine (number_any hs1 hb1 _).mono ?_); rintro e w' ⟨rfl, rfl⟩)
        | (go_at_call 49; (with_reducible refine (number_any hs2 hb2 _).mono ?_); rintro e w' ⟨rfl, rfl⟩))
      go_ret
      exact ⟨ret_int HQ.out, hI.out.bel⟩
    · have g1i : ¬ (2000 : Int) < (B.size : Int) := by omega
      have g2i : (2000 : Int) < (d.size : Int) := by omega
      clear h1 g1
      go_enter Tryz.func14, Tryz.ntmps14
      go_wp2_with (first
        | (go_at_call 48; (with_reducible refine (trimPx hB _).mono ?_); rintro e w' ⟨rfl, rfl⟩)
        | (go_at_call 49; (with_reducible refine (number_any hs1 hb1 _).mono ?_); rintro e w' ⟨rfl, rfl⟩)
        | (go_at_call 49; (with_reducible refine (number_any hs2 hb2 _).mono ?_); rintro e w' ⟨rfl, rfl⟩))
      go_ret
      exact ⟨ret_int HQ.out, hI.out.bel⟩
  have g1i : ¬ (2000 : Int) < (B.size : Int) := by omega
  have g2i : ¬ (2000 : Int) < (d.size : Int) := by omega
  obtain ⟨z1, hz1⟩ : ∃ z, (n.toList == [45, 48]) = z := ⟨_, rfl⟩
  obtain ⟨z2, hz2⟩ : ∃ z, (d.toList == [48]) = z := ⟨_, rfl⟩
  have e1 : z1 = true ↔ (negB n = true ∧ B.data.toList = [48]) := by
    rw [← H45.out, ← hz1, ByteArray.toList_eq, beq_iff_eq]
  have e2 : z2 = true ↔ d.data.toList = [48] := by rw [← hz2, ByteArray.toList_eq, beq_iff_eq]
  by_cases h2 : forP n d
  · have h2' := h2
    unfold forP at h2'
    rw [hB.out] at h2'
    obtain rfl : z1 = false := by
      cases z1
      · rfl
      · exact absurd (e1.1 rfl) h2'.2.2.2
    obtain rfl : z2 = false := by
      cases z2
      · rfl
      · exact absurd (e2.1 rfl) h2'.2.2.1
    have hb1 := Lib.hid (numB_true h2'.1)
    have hb2 := Lib.hid (numB_true h2'.2.1)
    have hD1 := Lib.hid h2'.1.2.1
    have hD2 := Lib.hid h2'.2.1.2.1
    have hsz1 : B.size ≤ 2000000000 := by omega
    have hsz2 : d.size ≤ 2000000000 := by omega
    obtain ⟨v1, hv1⟩ : ∃ v, Hid (dV B.data.toList = v) := ⟨_, Lib.hid rfl⟩
    obtain ⟨v2, hv2⟩ : ∃ v, Hid (dV d.data.toList = v) := ⟨_, Lib.hid rfl⟩
    have l1 : v1 ≤ M := by
      rw [← hv1.out]
      have h3 := dV_lt h2'.1.2.1
      have h4 := p10_mono (show B.data.toList.length ≤ 2000 from (by omega : B.size ≤ 2000))
      omega
    have l2 : v2 ≤ M := by
      rw [← hv2.out]
      have h3 := dV_lt h2'.2.1.2.1
      have h4 := p10_mono (show d.data.toList.length ≤ 2000 from (by omega : d.size ≤ 2000))
      omega
    obtain ⟨q1, hq1⟩ : ∃ k, Hid ((limbs v1).length = k) := ⟨_, Lib.hid rfl⟩
    obtain ⟨q2, hq2⟩ : ∃ k, Hid ((limbs v2).length = k) := ⟨_, Lib.hid rfl⟩
    obtain ⟨G, hG⟩ : ∃ G, Hid (Nat.gcd v1 v2 = G) := ⟨_, Lib.hid rfl⟩
    obtain ⟨kG, hkG⟩ : ∃ k, Hid ((limbs G).length = k) := ⟨_, Lib.hid rfl⟩
    obtain ⟨t, ht⟩ : ∃ t, Hid (decB G = t) := ⟨_, Lib.hid rfl⟩
    have hv2p : 0 < v2 := by rw [← hv2.out]; exact numP_pos h2'.2.1 h2'.2.2.1
    have hGM : G ≤ M := by
      rw [← hG.out]
      exact Nat.le_trans (Nat.le_of_dvd hv2p (Nat.gcd_dvd_right v1 v2)) l2
    have hkG9 : kG ≤ 1000000000 := by rw [← hkG.out]; exact hM.len hGM
    obtain ⟨z3, hz3⟩ : ∃ z, (t.toList == [49]) = z := ⟨_, rfl⟩
    have hz3n : (t.toList != [49]) = !z3 := by rw [bne, hz3]
    have e3 : z3 = true ↔ G = 1 := by rw [← hz3, ByteArray.toList_eq, beq_iff_eq, ← ht.out, dec_one]
    have HQ : Hid ((if z3 then 0 else 3) = f) := Lib.hid (by
      rw [← hf.out]
      have hG' : Nat.gcd (dV (bodyB n).data.toList) (dV d.data.toList) = G := by rw [hB.out, hv1.out, hv2.out, hG.out]
      cases z3
      · rw [ratF_gcd (by rw [hB.out]; exact h1) h2 (by rw [hG']; intro e; exact absurd (e3.2 e) (by simp))]; rfl
      · rw [ratF_zero (by rw [hB.out]; exact h1) h2 (by rw [hG']; exact e3.1 rfl)]; rfl)
    clear h1 h2 h2' hf H45 e1 e2 e3 hGM hv2p
    go_enter Tryz.func14, Tryz.ntmps14
    go_upto_region 6 with (first
      | (go_at_call 48; (with_reducible refine (trimPx hB _).mono ?_); rintro e w' ⟨rfl, rfl⟩)
      | (go_at_call 49; (with_reducible refine (number_any hs1 hb1 _).mono ?_); rintro e w' ⟨rfl, rfl⟩)
      | (go_at_call 49; (with_reducible refine (number_any hs2 hb2 _).mono ?_); rintro e w' ⟨rfl, rfl⟩))
    obtain ⟨bb, hbb⟩ : ∃ b, w.heap.size = b := ⟨_, rfl⟩
    rw [hbb] at x0 x1 HB ⊢
    have HBB := Lib.hid hbb
    generalize w.alloc (.cells #[.string n, .string d] 32) = wx at *
    have hI1 : Hid (Inv w.heap.size w φ φ1 wx.drew) := Lib.hid hI.out.drew
    have x1d : wx.drew.cell? ⟨bb, 1, none⟩ = some (.string d) := x1
    clear x0 x1 hbb
    go_region_held3 (fun w' => w'.cell? ⟨bb, 1, none⟩ = some (.string d)) (first | with_reducible exact x1d | with_reducible assumption) (first
      | ((with_reducible refine (Rtext_any (m := G) H7.out.fz (HP.out.mono ((L5.out.trans L6.out).trans L7.out)) SG.out hkG hkG9 ht).mono ?_); rintro e w8 ⟨rfl, hb8⟩; have H8 := Lib.hid (H7.out.callB hb8); have x8 := (box2 HB.out ((L5.out.trans L6.out).trans L7.out) H8.out.fz).2; clear hb8)
      | ((with_reducible refine (Rcommon_any (m := v1) (n := v2) hM H6.out.fz (SP.out.mono L6.out) SQ.out hq1 hq2 l1 l2).mono ?_); rw [hG.out]; rintro e w7 ⟨a7, c7, φ7, rfl, hi7, hs7⟩; rw [hkG.out]; have H7 := Lib.hid (H6.out.call hi7); have L7 := Lib.hid hi7.le; have SG := Lib.hid hs7; have x7 := (box2 HB.out ((L5.out.trans L6.out).trans hi7.le) H7.out.fz).2; clear hi7 hs7)
      | ((with_reducible refine (readNat_any hsz2 hD2 hv2 H5.out.fz).mono ?_); rintro e w6 ⟨a6, c6, φ6, rfl, hi6, hs6⟩; rw [hq2.out]; have H6 := Lib.hid (H5.out.call hi6); have L6 := Lib.hid hi6.le; have SQ := Lib.hid hs6; have x6 := (box2 HB.out (L5.out.trans hi6.le) H6.out.fz).2; clear hi6 hs6)
      | ((with_reducible refine (readNat_any hsz1 hD1 hv1 hI1.out.fz).mono ?_); rintro e w5 ⟨a5, c5, φ5, rfl, hi5, hs5⟩; rw [hq1.out]; have H5 := Lib.hid (hI1.out.call hi5); have L5 := Lib.hid hi5.le; have SP := Lib.hid hs5; have x5 := (box2 HB.out hi5.le H5.out.fz).2; clear hi5 hs5))
    cases z3
    · go_wp2
      go_ret
      exact ⟨ret_int HQ.out, H8.out.bel⟩
    · go_wp2
      go_ret
      exact ⟨ret_int HQ.out, H8.out.bel⟩
  · have HQ : Hid (3 = f) := Lib.hid (by rw [← hf.out, ratF_form (by rw [hB.out]; exact h1) h2])
    obtain ⟨b1, hb1⟩ : ∃ b, Hid (numB B = b) := ⟨_, Lib.hid rfl⟩
    obtain ⟨b2, hb2⟩ : ∃ b, Hid (numB d = b) := ⟨_, Lib.hid rfl⟩
    unfold forP at h2
    rw [hB.out] at h2
    clear hf h1 H45
    cases b1 with
    | false =>
      clear h2 e1 e2
      go_enter Tryz.func14, Tryz.ntmps14
      go_wp2_with (first
        | (go_at_call 48; (with_reducible refine (trimPx hB _).mono ?_); rintro e w' ⟨rfl, rfl⟩)
        | (go_at_call 49; (with_reducible refine (number_any hs1 hb1 _).mono ?_); rintro e w' ⟨rfl, rfl⟩)
        | (go_at_call 49; (with_reducible refine (number_any hs2 hb2 _).mono ?_); rintro e w' ⟨rfl, rfl⟩))
      go_ret
      exact ⟨ret_int HQ.out, hI.out.bel⟩
    | true =>
    cases z1 with
    | true =>
      clear h2 e1 e2
      go_enter Tryz.func14, Tryz.ntmps14
      go_wp2_with (first
        | (go_at_call 48; (with_reducible refine (trimPx hB _).mono ?_); rintro e w' ⟨rfl, rfl⟩)
        | (go_at_call 49; (with_reducible refine (number_any hs1 hb1 _).mono ?_); rintro e w' ⟨rfl, rfl⟩)
        | (go_at_call 49; (with_reducible refine (number_any hs2 hb2 _).mono ?_); rintro e w' ⟨rfl, rfl⟩))
      go_ret
      exact ⟨ret_int HQ.out, hI.out.bel⟩
    | false =>
    cases b2 with
    | false =>
      clear h2 e1 e2
      go_enter Tryz.func14, Tryz.ntmps14
      go_wp2_with (first
        | (go_at_call 48; (with_reducible refine (trimPx hB _).mono ?_); rintro e w' ⟨rfl, rfl⟩)
        | (go_at_call 49; (with_reducible refine (number_any hs1 hb1 _).mono ?_); rintro e w' ⟨rfl, rfl⟩)
        | (go_at_call 49; (with_reducible refine (number_any hs2 hb2 _).mono ?_); rintro e w' ⟨rfl, rfl⟩))
      go_ret
      exact ⟨ret_int HQ.out, hI.out.bel⟩
    | true =>
    obtain rfl : z2 = true := Classical.byContradiction fun e => h2 ⟨numB_P hb1.out, numB_P hb2.out, fun q => e (e2.2 q), fun q => absurd (e1.2 q) (by simp)⟩
    clear h2 e1 e2
    go_enter Tryz.func14, Tryz.ntmps14
    go_wp2_with (first
      | (go_at_call 48; (with_reducible refine (trimPx hB _).mono ?_); rintro e w' ⟨rfl, rfl⟩)
      | (go_at_call 49; (with_reducible refine (number_any hs1 hb1 _).mono ?_); rintro e w' ⟨rfl, rfl⟩)
      | (go_at_call 49; (with_reducible refine (number_any hs2 hb2 _).mono ?_); rintro e w' ⟨rfl, rfl⟩))
    go_ret
    exact ⟨ret_int HQ.out, hI.out.bel⟩
end Go.Proofs.YtmlpjffnmkndoaaGreatDoor
