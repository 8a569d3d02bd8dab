/- The walk of the law CodeAgreementMatchesSpec. Conditions: the library's table of powers of ten reads as it was laid. -/
import Derived.Test.YtngogjookldidaaGreatDoorC25
import Derived.Test.YtngogjookldidaaGreatDoorC29
import Derived.Test.YtngogjookldidaaGreatDoorBC
import Derived.Laws.StructEq
namespace Go.Proofs.YtngogjookldidaaGreatDoor
open Go.RowKit
set_option linter.unusedVariables false
set_option linter.unusedSimpArgs false
theorem neqK (w : World) (x1 x2 x3 y1 y2 y3 : Int) : (binOp .neq 30 (.agg #[.int .i64 x1, .int .i64 x2, .int .i64 x3]) (.agg #[.int .i64 y1, .int .i64 y2, .int .i64 y3])).run Tryz.prog w = .ok (.bool (!decide (x1 = y1 ∧ x2 = y2 ∧ x3 = y3))) w := by
  have hu := Tryz.underlying30
  rw [run_neq_struct, run_equalIn_agg w 9999 _ _ _ (by simp only [Program.fieldsOf, hu]) (by kernel_rfl)]
  simp only [Program.fieldsOf, hu]
  have hi := Tryz.underlying3
  by_cases h1 : x1 = y1 <;> by_cases h2 : x2 = y2 <;> by_cases h3 : x3 = y3 <;> simp [Op.eqFields, part, Program.cellsOf, h1, h2, h3, run_equalIn_int w _ 3 _ _ _ _ hi, Result.andThen]
set_option maxHeartbeats 1000000 in
theorem EqualK (n : Nat) (a : Option Addr) (cap : Nat) (xs : List Cdg) (m : Nat) (a2 : Option Addr) (cap2 : Nat) (ys : List Cdg) (w : World) (φ : Phi) (hφ : Fz φ w) (hs : SlV φ a cap xs) (hs2 : SlV φ a2 cap2 ys) (h1 : Hid (xs.length = n)) (h2 : Hid (ys.length = m)) (hl : n ≤ 9223372036854775807) :
    Calls Tryz.prog 6 #[.slice a n cap, .slice a2 m cap2] w fun e w' => e = .returned (.bool (decide (xs = ys))) ∧ Below w.heap.size w w' := by
  by_cases hlen : n = m
  · subst hlen
    have h0 : ((n : Int) != n) = false := by simp
    go_enter Tryz.func6, Tryz.ntmps6
    go_wp2
    clear h0
    go_loopw [13] (fun i wr => ∃ k : Nat, k ≤ n ∧ i = .int .i64 k ∧ Hid (xs.take k = ys.take k) ∧ Below w.heap.size w wr) (fun i _ => n - (intOf i).toNat)
    case atStart => exact ⟨0, Nat.zero_le _, rfl, Lib.hid rfl, Below.refl _ _⟩
    case round =>
      obtain ⟨k, hk, rfl, Hx, hb⟩ := hrel
      have hf := hφ.below hb
      by_cases hlt : k < n
      · obtain ⟨b, off, rfl, hc⟩ := hs.cdgD h1 hlt
        obtain ⟨b2, off2, rfl, hc2⟩ := hs2.cdgD h2 hlt
        obtain ⟨c1, c2, c3, c4⟩ := hc k hlt wr hf
        obtain ⟨d1, d2, d3, d4⟩ := hc2 k hlt wr hf
        have hi1 : (k : Int) < n := by omega
        have t1 := Lib.hid (take_snocD cdg0 xs k n h1.out hlt)
        have t2 := Lib.hid (take_snocD cdg0 ys k n h2.out hlt)
        have u1 := Lib.hid (getD_elem0 cdg0 xs k (by rw [h1.out]; exact hlt))
        have u2 := Lib.hid (getD_elem0 cdg0 ys k (by rw [h2.out]; exact hlt))
        generalize hX : xs.getD k cdg0 = X at *
        generalize hY : ys.getD k cdg0 = Y at *
        have HX := Lib.hid hX
        have HY := Lib.hid hY
        clear hX hY hc hc2
        obtain ⟨x1, x2, x3⟩ := X
        obtain ⟨y1, y2, y3⟩ := Y
        dsimp only at c2 c3 c4 d2 d3 d4
        have hgd : Tryz.prog.eqGuardType Tryz.prog.depth 30 = false := by kernel_rfl
        by_cases he : x1 = y1 ∧ x2 = y2 ∧ x3 = y3
        · obtain ⟨rfl, rfl, rfl⟩ := he
          have hneq := fun w => neqK w x1 x2 x3 x1 x2 x3
          simp only [and_self, decide_true, Bool.not_true] at hneq
          go_wp2_with fail
          go_quiet (fail)
          go_wp2
          go_roundw
          case rel => exact ⟨k + 1, by omega, by go_num, Lib.hid (by rw [t1.out, t2.out, Hx.out]), bdrewN hb _⟩
          case measure => (simp [intOf] <;> omega)
        · have hne : decide (x1 = y1 ∧ x2 = y2 ∧ x3 = y3) = false := decide_eq_false he
          have hneq := fun w => neqK w x1 x2 x3 y1 y2 y3
          simp only [hne, Bool.not_false] at hneq
          have HE := Lib.hid he
          clear he hne
          go_wp2_with fail
          go_quiet (fail)
          go_wp2
          go_ret
          refine ⟨ret_bool (decide_eq_false (fun e => HE.out ?_)).symm, bdrewN hb _⟩
          subst e
          have := HX.out.symm.trans HY.out
          simpa using this
      · obtain rfl : k = n := by omega
        go_wp2
        go_ret
        have e : xs = ys := by
          have := Hx.out
          rw [List.take_of_length_le (by rw [h1.out]; exact Nat.le_refl _), List.take_of_length_le (by rw [h2.out]; exact Nat.le_refl _)] at this
          exact this
        exact ⟨ret_bool (decide_eq_true e).symm, hb⟩
  · have hne : ((n : Int) != m) = true := by simp; omega
    have hL := Lib.hid hlen
    clear hlen
    go_enter Tryz.func6, Tryz.ntmps6
    go_wp2
    go_ret
    exact ⟨ret_bool (decide_eq_false (by intro e; exact hL.out (by rw [← h1.out, ← h2.out, e]))).symm, Below.refl _ _⟩
theorem EqualK_same (n : Nat) (a : Option Addr) (cap : Nat) (xs : List Cdg) (a2 : Option Addr) (cap2 : Nat) (w : World) (φ : Phi) (hφ : Fz φ w) (hs : SlV φ a cap xs) (hs2 : SlV φ a2 cap2 xs) (h1 : Hid (xs.length = n)) (hl : n ≤ 9223372036854775807) :
    Calls Tryz.prog 6 #[.slice a n cap, .slice a2 n cap2] w fun e w' => e = .returned (.bool true) ∧ Below w.heap.size w w' :=
  (EqualK n a cap xs n a2 cap2 xs w φ hφ hs hs2 h1 h1 hl).mono (fun e w' h => ⟨by rw [h.1, decide_eq_true rfl], h.2⟩)
theorem neqRG (w : World) (s t : ByteArray) : (binOp .neq 32 (.agg #[.string s, .string t]) (.agg #[.string s, .string t])).run Tryz.prog w = .ok (.bool false) w := by
  have hu := Tryz.underlying32
  rw [run_neq_struct, run_equalIn_agg w 9999 _ _ _ (by simp only [Program.fieldsOf, hu]) (by kernel_rfl)]
  simp only [Program.fieldsOf, hu]
  have hi := Tryz.underlying9
  simp [Op.eqFields, part, Program.cellsOf, run_equalIn_string w _ 9 _ _ hi, Result.andThen]
theorem eqRG (w : World) (s t : ByteArray) : (binOp .eql 32 (.agg #[.string s, .string t]) (.agg #[.string s, .string t])).run Tryz.prog w = .ok (.bool true) w := by
  have hu := Tryz.underlying32
  rw [run_eql_struct, run_equalIn_agg w 9999 _ _ _ (by simp only [Program.fieldsOf, hu]) (by kernel_rfl)]
  simp only [Program.fieldsOf, hu]
  have hi := Tryz.underlying9
  simp [Op.eqFields, part, Program.cellsOf, run_equalIn_string w _ 9 _ _ hi, Result.andThen]
theorem mAl_39 : 1000000000000000000000000000000000000000 ≤ mAl := Nat.le_trans (show 1000000000000000000000000000000000000000 ≤ p10 100 by unfold p10; decide) (p10_up (show 100 ≤ 5000 by omega))
theorem mAl_Z : lb ^ 11 * 100000000000000000000 ≤ mAl := Nat.le_trans (show lb ^ 11 * 100000000000000000000 ≤ p10 200 by unfold p10 lb; decide) (p10_up (show 200 ≤ 5000 by omega))
theorem mAl_rdiv : Hid (RdivOk mAl) := Lib.hid (Rdiv_any mAl_len)
set_option maxRecDepth 100000 in
set_option maxHeartbeats 4000000 in
theorem agr_core {w : World} {a : Option Addr} {c n : Nat} {l : List Nod} {φ : Phi} (hφ : Fz φ w) (hp : PowP φ) (s : SlV φ a c l) (hn : Hid (l.length = n)) (hm : n ≤ 9223372036854775807) {ac : Option Addr} {cc nc : Nat} {cs : List Cdg} (sc : SlV φ ac cc cs) (hnc : Hid (cs.length = nc)) (hmc : nc ≤ 9223372036854775807) (x y : Int) (tr : Bool) :
    Calls Tryz.prog 3 #[.slice a n c, .slice ac nc cc, .int .i64 x, .int .i64 y, .bool tr] w fun e w' => e = .returned (.bool true) ∧ Below w.heap.size w w' := by
  have HF := Lib.hid hφ
  have HP := Lib.hid hp
  have SS := Lib.hid s
  have SC := Lib.hid sc
  obtain ⟨K, hK⟩ : ∃ K, Hid (kapF l cs x y = K) := ⟨_, Lib.hid rfl⟩
  obtain ⟨S, T, F⟩ := K
  obtain ⟨K, hA⟩ : ∃ K, Hid (alpF l cs tr = K) := ⟨_, Lib.hid rfl⟩
  obtain ⟨S3, T3, F3⟩ := K
  obtain ⟨K, hX⟩ : ∃ K, Hid (conF l cs x y = K) := ⟨_, Lib.hid rfl⟩
  obtain ⟨xs, q⟩ := K
  obtain ⟨nx, hnx⟩ : ∃ nx, Hid (xs.length = nx) := ⟨_, Lib.hid rfl⟩
  have h1 := neqRG
  have h2 := eqRG
  clear hφ hp s sc
  go_enter Tryz.func3, Tryz.ntmps3
  go_wp2_with fail
  refine (Confusions_any HF.out SS.out hn hm SC.out hnc hmc x y).mono ?_
  rw [hX.out]
  rintro e w1 ⟨a1, c1, φ1, rfl, hi1, s1⟩
  dsimp only at s1 ⊢
  rw [hnx.out]
  have I1 := Lib.hid hi1
  have S1 := Lib.hid s1
  clear hi1 s1
  go_wp2_with fail
  refine (RConfusions_any I1.out.fz (SS.out.mono I1.out.le) hn hm (SC.out.mono I1.out.le) hnc hmc x y).mono ?_
  rw [hX.out]
  rintro e w2 ⟨a2, c2, φ2, rfl, hi2, s2⟩
  dsimp only at s2 ⊢
  rw [hnx.out]
  have I2 := Lib.hid (I1.out.call hi2)
  have S2 := Lib.hid s2
  have S12 := Lib.hid (S1.out.mono hi2.le)
  have hnl : nx ≤ 9223372036854775807 := by
    have h3 := S2.out.capn
    have h4 := S2.out.capm
    rw [hnx.out] at h3
    unfold maxLen at h4
    omega
  clear hi2 s2
  have hf : ((q : Int) != q) = false := by simp
  go_wp2_with (go_at_call 6; refine (EqualK_same nx a1 c1 xs a2 c2 w2 φ2 I2.out.fz S12.out S2.out hnx hnl).mono ?_; rintro e w3 ⟨rfl, hb3⟩)
  have B3 := Lib.hid (I2.out.bel.trans (hb3.mono I2.out.size))
  clear hb3
  go_wp2_with fail
  refine (Kappa_any (HF.out.below B3.out) HP.out SS.out hn hm SC.out hnc hmc x y hK).mono ?_
  rintro e w4 ⟨rfl, hb4⟩
  have B4 := Lib.hid (B3.out.trans (hb4.mono B3.out.size))
  have B5 := Lib.hid (B4.out.alloc B4.out.size (.cells #[.string S, .string T] 32))
  have K1 := Lib.hid (Blk.new w4 #[.string S, .string T] 32)
  clear hb4
  go_wp2_with fail
  generalize w4.alloc (.cells #[.string S, .string T] 32) = w5 at *
  generalize hg1 : w4.heap.size = g1 at *
  have hlg : Hid (w.heap.size ≤ g1) := Lib.hid (by rw [← hg1]; exact B4.out.size)
  refine (RKappa_any mAl_rdiv mAl_len mAl_39 (HF.out.below B5.out) HP.out SS.out hn hm SC.out hnc hmc x y hK).mono ?_
  rintro e w6 ⟨rfl, hb6⟩
  have B6 := Lib.hid (B5.out.trans (hb6.mono B5.out.size))
  have B7 := Lib.hid (B6.out.alloc B6.out.size (.cells #[.string S, .string T] 32))
  have K2 := Lib.hid ((K1.out.callB hb6).alloc (.cells #[.string S, .string T] 32))
  have L2 := Lib.hid (Blk.new w6 #[.string S, .string T] 32)
  have hne : Hid (g1 ≠ w6.heap.size) := Lib.hid (by have := (K1.out.callB hb6).lt; omega)
  have hl6 : Hid (w.heap.size ≤ w6.heap.size) := Lib.hid B6.out.size
  clear hb6 hg1
  go_upto_region 7 with (fail)
  generalize w6.alloc (.cells #[.string S, .string T] 32) = w7 at *
  generalize w6.heap.size = g2 at *
  have hf2 : ((F : Int) != F) = false := by simp
  have c0 : w7.cell? ⟨g1, 0, none⟩ = some (.string S) := K2.out.cell 0
  have c1 : w7.cell? ⟨g1, 1, none⟩ = some (.string T) := K2.out.cell 1
  have d0 : w7.cell? ⟨g2, 0, none⟩ = some (.string S) := L2.out.cell 0
  have d1 : w7.cell? ⟨g2, 1, none⟩ = some (.string T) := L2.out.cell 1
  go_wp2_with fail
  refine (Alpha_any (HF.out.below B7.out) HP.out SS.out hn hm SC.out hnc hmc tr hA).mono ?_
  rintro e w8 ⟨rfl, hb8⟩
  have B8 := Lib.hid (B7.out.trans (hb8.mono B7.out.size))
  have K3 := Lib.hid (K2.out.callB hb8)
  have L3 := Lib.hid (L2.out.callB hb8)
  clear hb8 c0 c1 d0 d1
  have c0 : w8.cell? ⟨g1, 0, none⟩ = some (.string S) := K3.out.cell 0
  have c1 : w8.cell? ⟨g1, 1, none⟩ = some (.string T) := K3.out.cell 1
  have c2' := K3.out.frz 0
  have c3' := K3.out.frz 1
  go_wp2_with fail
  have K4 := Lib.hid ((K3.out.set 0 (.string S3)).set 1 (.string T3))
  have B9 := Lib.hid (Below_grown (Below_grown B8.out (grown_setC w8 g1 0 (.string S3)) hlg.out) (grown_setC _ g1 1 (.string T3)) hlg.out)
  have L4 := Lib.hid (Blk.grown (Blk.grown L3.out (grown_setC w8 g1 0 (.string S3)) hne.out.symm) (grown_setC _ g1 1 (.string T3)) hne.out.symm)
  generalize (w8.setCell ⟨g1, 0, none⟩ (.string S3)).setCell ⟨g1, 1, none⟩ (.string T3) = w9 at *
  clear c0 c1 c2' c3'
  refine (RAlpha_any (Z := lb ^ 11) mAl_rdiv mAl_len (Lib.hid (Nat.le_refl _)) (Lib.hid ⟨by decide, mAl_Z⟩) (HF.out.below B9.out) HP.out SS.out hn hm SC.out hnc hmc tr hA).mono ?_
  rintro e wA ⟨rfl, hbA⟩
  have BA := Lib.hid (B9.out.trans (hbA.mono B9.out.size))
  have K5 := Lib.hid (K4.out.callB hbA)
  have L5 := Lib.hid (L4.out.callB hbA)
  clear hbA
  have e0 : wA.cell? ⟨g2, 0, none⟩ = some (.string S) := L5.out.cell 0
  have e1 : wA.cell? ⟨g2, 1, none⟩ = some (.string T) := L5.out.cell 1
  have e2' := L5.out.frz 0
  have e3' := L5.out.frz 1
  go_upto_region 11 with (fail)
  have L6 := Lib.hid ((L5.out.set 0 (.string S3)).set 1 (.string T3))
  have BB := Lib.hid (Below_grown (Below_grown BA.out (grown_setC wA g2 0 (.string S3)) hl6.out) (grown_setC _ g2 1 (.string T3)) hl6.out)
  have K6 := Lib.hid (Blk.grown (Blk.grown K5.out (grown_setC wA g2 0 (.string S3)) hne.out) (grown_setC _ g2 1 (.string T3)) hne.out)
  generalize (wA.setCell ⟨g2, 0, none⟩ (.string S3)).setCell ⟨g2, 1, none⟩ (.string T3) = wB at *
  clear e0 e1 e2' e3'
  have c0 : wB.cell? ⟨g1, 0, none⟩ = some (.string S3) := K6.out.cell 0
  have c1 : wB.cell? ⟨g1, 1, none⟩ = some (.string T3) := K6.out.cell 1
  have d0 : wB.cell? ⟨g2, 0, none⟩ = some (.string S3) := L6.out.cell 0
  have d1 : wB.cell? ⟨g2, 1, none⟩ = some (.string T3) := L6.out.cell 1
  have hf3 : ((F3 : Int) == F3) = true := by simp
  go_wp2
  go_ret
  exact ⟨rfl, BB.out⟩
theorem rCdgG (H : Type) (enc : TypeId × Value → H) (W : World) : Reads enc Tryz.prog W 23 (List Cdg) (fun xs => xs.length * Tryz.prog.bytesOf 70 ≤ reachBytes ∧ ∀ x ∈ xs, IsI64 x.1 ∧ IsI64 x.2.1 ∧ IsI64 x.2.2) :=
  Reads.slice Tryz.underlying23 (by kernel_rfl) (by decide) (Reads.struct3 (s1 := 1) (s2 := 1) (s3 := 1) Tryz.underlying70 (by kernel_rfl) (by kernel_rfl) (by kernel_rfl) (by kernel_rfl) (by kernel_rfl) (by kernel_rfl) (by kernel_rfl) (rInt H enc W) (rInt H enc W) (rInt H enc W))
theorem rBoolG (H : Type) (enc : TypeId × Value → H) (W : World) : Reads enc Tryz.prog W 4 Bool (fun _ => True) := Reads.bool Tryz.underlying4
theorem cdgs_lenG {l : List Cdg} (h : l.length * Tryz.prog.bytesOf 70 ≤ reachBytes) : l.length ≤ 9223372036854775807 := by
  have hb : Tryz.prog.bytesOf 70 = 24 := by kernel_rfl
  rw [hb] at h; unfold reachBytes at h; omega
theorem codeAgreementMatchesSpec_walk (w : World) (φ : Phi) (hφ : Fz φ w) (hp : PowP φ) (ad : Option Addr) (cp : Nat) (l : List Nod) (s : SlV φ ad cp l) (g : l.length * Tryz.prog.bytesOf 51 ≤ reachBytes ∧ ∀ x ∈ l, IsI64 x.1 ∧ IsI64 x.2.1 ∧ StrG x.2.2)
    (ac : Option Addr) (cc : Nat) (cs : List Cdg) (sc : SlV φ ac cc cs) (gc : cs.length * Tryz.prog.bytesOf 70 ≤ reachBytes ∧ ∀ x ∈ cs, IsI64 x.1 ∧ IsI64 x.2.1 ∧ IsI64 x.2.2) (a : Int) (ga : IsI64 a) (b : Int) (gb : IsI64 b) (tr : Bool) :
    Calls Tryz.prog 3 #[.slice ad l.length cp, .slice ac cs.length cc, .int .i64 a, .int .i64 b, .bool tr] w fun e w' => e = .returned (.bool true) ∧ Below w.heap.size w w' :=
  agr_core hφ hp s (Lib.hid rfl) (nodes_len g.1) sc (Lib.hid rfl) (cdgs_lenG gc.1) a b tr
end Go.Proofs.YtngogjookldidaaGreatDoor
