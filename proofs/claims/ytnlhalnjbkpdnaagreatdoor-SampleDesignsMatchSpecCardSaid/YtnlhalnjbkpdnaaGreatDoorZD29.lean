/- The law SampleDesignsMatchSpec's walk. Conditions: the library's tables of blanks and of powers of ten read as they were laid. -/
import Derived.Test.YtnlhalnjbkpdnaaGreatDoorZM
import Derived.Test.YtnlhalnjbkpdnaaGreatDoorZ13
import Derived.Test.YtnlhalnjbkpdnaaGreatDoorNC
import Derived.Test.YtnlhalnjbkpdnaaGreatDoorBC
import Derived.Laws.StructEq
namespace Go.Proofs.YtnlhalnjbkpdnaaGreatDoor
open Go.RowKit Go.Sort
set_option linter.unusedVariables false
set_option linter.unusedSimpArgs false
theorem neqR (w : World) (s t : ByteArray) : (binOp .neq 33 (.agg #[.string s, .string t]) (.agg #[.string s, .string t])).run Tryz.prog w = .ok (.bool false) w := by
  have hu := Tryz.underlying33
  rw [run_neq_struct, run_equalIn_agg w 9999 _ _ _ (by simp only [Program.fieldsOf, hu]) (by kernel_rfl)]
  simp only [Program.fieldsOf, hu]
  have hi := Tryz.underlying9
  simp [Op.eqFields, part, Program.cellsOf, run_equalIn_string w _ 9 _ _ hi, Result.andThen]
set_option maxHeartbeats 1000000 in
theorem EqualR_same (n : Nat) (a1 : Option Addr) (c1 : Nat) (xs : List Rti) (a2 : Option Addr) (c2 : Nat) (w : World) (φ : Phi) (hφ : Fz φ w) (s1 : SlV φ a1 c1 xs) (hn1 : Hid (xs.length = n)) (hm1 : n ≤ 9223372036854775807) (s2 : SlV φ a2 c2 xs) :
    Calls Tryz.prog 11 #[.slice a1 n c1, .slice a2 n c2] w (fun e w' => e = .returned (.bool true) ∧ Below w.heap.size w w') := by
  have hb1 : ((n : Int) != n) = false := by simp
  go_enter Tryz.func11, Tryz.ntmps11
  go_wp2
  clear hb1
  go_loopw [13] (fun i wr => ∃ k : Nat, k ≤ n ∧ i = .int .i64 k ∧ Hid (Below w.heap.size w wr)) (fun i _ => n - (intOf i).toNat)
  case atStart => exact ⟨0, Nat.zero_le _, rfl, Lib.hid (Below.refl _ _)⟩
  case round =>
    obtain ⟨k, hk, rfl, hB⟩ := hrel
    by_cases hlt : k < n
    · obtain ⟨b1, o1, rfl, f1⟩ := s1.rtisD hn1 hlt
      obtain ⟨d1, d2⟩ := f1 k hlt wr (hφ.below hB.out)
      obtain ⟨b2, o2, rfl, f2⟩ := s2.rtisD hn1 hlt
      obtain ⟨e1, e2⟩ := f2 k hlt wr (hφ.below hB.out)
      clear f1 f2
      have hi1 : (k : Int) < n := by omega
      generalize (xs.getD k rti0).1 = x at *
      generalize (xs.getD k rti0).2 = y at *
      have hgd : Tryz.prog.eqGuardType Tryz.prog.depth 33 = false := by kernel_rfl
      have hneq := fun w => neqR w x y
      go_wp2_with fail
      go_quiet (fail)
      go_wp2
      go_roundw
      case rel => exact ⟨k + 1, by omega, by go_num, Lib.hid (bdrewN hB.out _)⟩
      case measure => (simp [intOf] <;> omega)
    · obtain rfl : k = n := by omega
      go_wp2
      go_ret
      exact ⟨rfl, hB.out⟩

section
variable {w0 W : World} {φ0 φ : Phi}
theorem PCheck_S {kind : Int} {aT : Option Addr} {cT nT : Nat} {ts : List Tak} {a : Option Addr} {c n : Nat} {l : List Unt} {φ1 : Phi} (hl : Hid (φ1.le φ)) (st : Hid (SlV φ1 aT cT ts)) (hnT : Hid (ts.length = nT)) (hmT : nT ≤ 9223372036854775807) (sl : Hid (SlV φ1 a c l)) (hn : Hid (l.length = n)) (hm : n ≤ 9223372036854775807) (hs : Hid (∀ u ∈ l, u.2.1.size ≤ reachBytes)) {q : Int} (hq : Hid (dsgF kind ts l = q)) (h : Hid (Inv w0.heap.size w0 φ0 φ W)) :
    Calls Tryz.prog 9 #[.agg #[.int .i64 kind, .slice aT nT cT], .slice a n c] W (fun e w' => e = .returned (.int .i64 q) ∧ Hid (Inv w0.heap.size w0 φ0 φ w')) :=
  (PCheckDesign_any h.out.fz (st.out.mono hl.out) hnT hmT (sl.out.mono hl.out) hn hm hs hq).mono fun e w' q => ⟨q.1, Lib.hid (h.out.callB q.2)⟩
theorem RCheck_S {kind : Int} {aT : Option Addr} {cT nT : Nat} {ts : List Tak} {a : Option Addr} {c n : Nat} {l : List Unt} {φ1 : Phi} (hl : Hid (φ1.le φ)) (hb : Hid (TabP φ1)) (st : Hid (SlV φ1 aT cT ts)) (hnT : Hid (ts.length = nT)) (hmT : nT ≤ 9223372036854775807) (sl : Hid (SlV φ1 a c l)) (hn : Hid (l.length = n)) (hm : n ≤ 9223372036854775807) (hs : Hid (∀ u ∈ l, u.2.1.size ≤ reachBytes)) {q : Int} (hq : Hid (dsgF kind ts l = q)) (h : Hid (Inv w0.heap.size w0 φ0 φ W)) :
    Calls Tryz.prog 10 #[.agg #[.int .i64 kind, .slice aT nT cT], .slice a n c] W (fun e w' => e = .returned (.int .i64 q) ∧ Hid (Inv w0.heap.size w0 φ0 φ w')) :=
  (RCheckDesign_any h.out.fz (hb.out.mono hl.out) (st.out.mono hl.out) hnT hmT (sl.out.mono hl.out) hn hm hs hq).mono fun e w' q => ⟨q.1, Lib.hid (h.out.callB q.2)⟩
theorem EqualR_S {n1 : Nat} {a1 a2 : Option Addr} {c1 c2 : Nat} {xs : List Rti} (s1 : Hid (SlV φ a1 c1 xs)) (hn1 : Hid (xs.length = n1)) (hm1 : n1 ≤ 9223372036854775807) (s2 : Hid (SlV φ a2 c2 xs)) (h : Hid (Inv w0.heap.size w0 φ0 φ W)) :
    Calls Tryz.prog 11 #[.slice a1 n1 c1, .slice a2 n1 c2] W (fun e w' => e = .returned (.bool true) ∧ Hid (Inv w0.heap.size w0 φ0 φ w')) :=
  (EqualR_same n1 a1 c1 xs a2 c2 W φ h.out.fz s1.out hn1 hm1 s2.out).mono fun e w' q => ⟨q.1, Lib.hid (h.out.callB q.2)⟩
end
theorem p10_two {a b c : Nat} (h : a + b ≤ c) : p10 a * p10 b ≤ p10 c := by
  unfold p10
  rw [← Nat.pow_add]
  exact Nat.pow_le_pow_right (by decide) h
theorem p10_sq : p10 2000 * p10 2000 ≤ p10 5000 := p10_two (by decide)
theorem lenB_p5 : LenB (p10 5000) := lenB_p (k := 1000) (by decide) (by decide)
set_option maxRecDepth 100000 in
set_option maxHeartbeats 4000000 in
theorem designs_core {w : World} {kind : Int} {aT : Option Addr} {cT nT : Nat} {ts : List Tak} {a : Option Addr} {c n : Nat} {l : List Unt} {φ : Phi} (hφ : Fz φ w) (hb_ : TabP φ) (hp : PowP φ) (st : SlV φ aT cT ts) (hnT : Hid (ts.length = nT)) (hmT : nT ≤ 9223372036854775807) (sl : SlV φ a c l) (hn : Hid (l.length = n)) (hm : n ≤ 9223372036854775807) (hs : Hid (∀ u ∈ l, u.2.1.size ≤ reachBytes)) {a0 b0 : Int} :
    Calls Tryz.prog 3 #[.agg #[.int .i64 kind, .slice aT nT cT], .slice a n c, .int .i64 a0, .int .i64 b0] w (fun e w' => e = .returned (.bool true) ∧ Below w.heap.size w w') := by
  obtain ⟨φ1, hle1, hi1, hb1⟩ := (Inv.start hφ).frz (.cells #[.int .i64 kind, .slice aT nT cT] 24)
  have HI1 := Lib.hid hi1
  have HB := Lib.hid hb1
  have HP := Lib.hid (hp.mono hle1)
  have HT := Lib.hid (hb_.mono hle1)
  have ST := Lib.hid (st.mono hle1)
  have SL := Lib.hid (sl.mono hle1)
  clear hi1 hb1 hφ hp hb_ st sl hle1
  have hRD : Hid (RdivOk (p10 5000)) := Lib.hid (Rdiv_any lenB_p5)
  have hM : Hid (MOk (p10 5000)) := Lib.hid ⟨div_any lenB_p5, lenB_p5, p10_sq⟩
  obtain ⟨q, hq⟩ : ∃ q, Hid (dsgF kind ts l = q) := ⟨_, Lib.hid rfl⟩
  obtain ⟨xs, G, hG⟩ : ∃ xs G, Hid (chsR kind ts l = (xs, G)) := ⟨_, _, Lib.hid rfl⟩
  obtain ⟨S, T, K, hK⟩ : ∃ S T K, Hid (jntR kind ts l a0 b0 = ((S, T), K)) := ⟨_, _, _, Lib.hid rfl⟩
  obtain ⟨nx, hnx⟩ : ∃ n, Hid (xs.length = n) := ⟨_, Lib.hid rfl⟩
  have gF : (q != q) = false := by simp
  have gG : (G != G) = false := by simp
  have gK : (K == K) = true := by simp
  have gS : (S.toList == S.toList) = true := str_eq_t rfl
  have gT : (T.toList == T.toList) = true := str_eq_t rfl
  obtain ⟨bx, hbx⟩ : ∃ b, w.heap.size = b := ⟨_, rfl⟩
  rw [hbx] at HB
  have hbox := Lib.hid (fun (φ3 : Phi) (W : World) (hl : φ1.le φ3) (h : Fz φ3 W) => (⟨box_cell HB.out hl h 0, box_cell HB.out hl h 1⟩ : W.cell? ⟨bx, 0, none⟩ = some (.int .i64 kind) ∧ W.cell? ⟨bx, 1, none⟩ = some (.slice aT nT cT)))
  go_enter Tryz.func3, Tryz.ntmps3
  go_wp2_with fail
  refine (PChances_any hM HI1.out.fz HP.out ST.out hnT hmT SL.out hn hm hs).mono ?_
  rw [hG.out]
  rintro e w2 ⟨a2, c2, φ2, rfl, hi2, hs2⟩
  have I2 := Lib.hid (HI1.out.call hi2)
  have S2 := Lib.hid hs2
  have L2 := Lib.hid hi2.le
  clear hi2 hs2
  dsimp only at S2 ⊢
  rw [hnx.out]
  obtain ⟨y0, y1⟩ := hbox.out _ _ L2.out I2.out.fz
  go_wp2_with fail
  refine (RChances_any hM hRD I2.out.fz (HT.out.mono L2.out) (HP.out.mono L2.out) (ST.out.mono L2.out) hnT hmT (SL.out.mono L2.out) hn hm hs).mono ?_
  rw [hG.out]
  rintro e w3 ⟨a3, c3, φ3, rfl, hi3, hs3⟩
  have I3 := Lib.hid (I2.out.call hi3)
  have S3_ := Lib.hid hs3
  have S2' := Lib.hid (S2.out.mono hi3.le)
  have L3 := Lib.hid (L2.out.trans hi3.le)
  have hnl : nx ≤ 9223372036854775807 := by
    have h3 := hs3.capn
    have h4 := hs3.capm
    rw [show (xs, G).1.length = nx from hnx.out] at h3
    unfold maxLen at h4
    omega
  clear hi3 hs3 y0 y1 I2
  dsimp only at S3_ ⊢
  rw [hnx.out]
  obtain ⟨y0, y1⟩ := hbox.out _ _ L3.out I3.out.fz
  go_wp2_with fail
  have I3d : Hid (Inv w.heap.size w φ φ3 w3.drew) := Lib.hid (I3.out.callB (bdrewN (Below.refl _ _) 1))
  obtain ⟨x0, x1⟩ := hbox.out _ _ L3.out I3d.out.fz
  go_region_held3 (fun w' => w'.cell? ⟨bx, 0, none⟩ = some (.int .i64 kind) ∧ w'.cell? ⟨bx, 1, none⟩ = some (.slice aT nT cT)) (first | with_reducible exact ⟨x0, x1⟩ | with_reducible exact ⟨by assumption, by assumption⟩ | fail) (first
    | (go_at_call 9; (with_reducible refine (PCheck_S L3 ST hnT hmT SL hn hm hs hq (by with_reducible assumption)).mono ?_); rintro e w4 ⟨rfl, hX⟩; obtain ⟨u0, u1⟩ := hbox.out _ _ L3.out hX.out.fz)
    | (go_at_call 10; (with_reducible refine (RCheck_S L3 HT ST hnT hmT SL hn hm hs hq (by with_reducible assumption)).mono ?_); rintro e w5 ⟨rfl, hX⟩; obtain ⟨u0, u1⟩ := hbox.out _ _ L3.out hX.out.fz)
    | (go_at_call 11; (with_reducible refine (EqualR_S S2' hnx hnl S3_ (by with_reducible assumption)).mono ?_); rintro e w6 ⟨rfl, hX⟩; obtain ⟨u0, u1⟩ := hbox.out _ _ L3.out hX.out.fz)
    | fail)
  have I6 : Hid (Inv w.heap.size w φ φ3 w6) := by assumption
  have HP3 := Lib.hid (HP.out.mono L3.out)
  have HT3 := Lib.hid (HT.out.mono L3.out)
  have ST3 := Lib.hid (ST.out.mono L3.out)
  have SL3 := Lib.hid (SL.out.mono L3.out)
  clear I3 I3d y0 y1 x0 x1
  go_wp2_with fail
  refine (PJoint_any hM I6.out.fz HP3.out ST3.out hnT hmT SL3.out hn hm hs hK).mono ?_
  rintro e w7 ⟨rfl, hb7⟩
  have I7 := Lib.hid (I6.out.callB hb7)
  clear hb7
  obtain ⟨y0, y1⟩ := hbox.out _ _ L3.out I7.out.fz
  have hbl : bx < w7.heap.size := block_lt_of_cell y0
  go_wp2_with fail
  have I8 := Lib.hid (I7.out.alloc (.cells #[.string S, .string T] 33))
  have B8 := Lib.hid (Blk.new w7 #[.string S, .string T] 33)
  refine (RJoint_any hM hRD I8.out.fz HT3.out HP3.out ST3.out hnT hmT SL3.out hn hm hs hK).mono ?_
  rintro e w9 ⟨rfl, hb9⟩
  have I9 := Lib.hid (I8.out.callB hb9)
  have B9 := Lib.hid (B8.out.callB hb9)
  have z0 : w9.cell? ⟨w7.heap.size, 0, none⟩ = some (.string S) := B9.out.cell 0
  have z1 : w9.cell? ⟨w7.heap.size, 1, none⟩ = some (.string T) := B9.out.cell 1
  have hlt := B9.out.lt
  clear hb9 y0 y1
  go_wp2
  go_ret
  exact ⟨rfl, (I9.out.alloc _).bel⟩
def DsgG (x : Int × List Tak) : Prop := IsI64 x.1 ∧ (x.2.length * Tryz.prog.bytesOf 73 ≤ reachBytes ∧ ∀ y ∈ x.2, StrG y.1 ∧ IsI64 y.2.1 ∧ IsI64 y.2.2)
theorem rDsg (H : Type) (enc : TypeId × Value → H) (W : World) : Reads enc Tryz.prog W 24 (Int × List Tak) DsgG :=
  Reads.struct2 (s1 := 1) (s2 := 1) Tryz.underlying24 (by kernel_rfl) (by kernel_rfl) (by kernel_rfl) (by kernel_rfl) (by kernel_rfl) (rInt H enc W)
    (Reads.slice Tryz.underlying22 (by kernel_rfl) (by decide) (Reads.struct3 (s1 := 1) (s2 := 1) (s3 := 1) Tryz.underlying73 (by kernel_rfl) (by kernel_rfl) (by kernel_rfl) (by kernel_rfl) (by kernel_rfl) (by kernel_rfl) (by kernel_rfl) (rStr H enc W) (rInt H enc W) (rInt H enc W)))
theorem dsg_open {φ : Phi} {cs : Array Value} {x : Int × List Tak} (h : Rep.rep φ x cs.toList) : ∃ aT cT, cs = #[.int .i64 x.1, .slice aT x.2.length cT] ∧ SlV φ aT cT x.2 ∧ x.2.length ≤ 9223372036854775807 := by
  obtain ⟨c, d, hcd, hc, ⟨a, cap, rfl, s⟩⟩ := h
  refine ⟨a, cap, ?_, s, ?_⟩
  · apply Array.toList_inj.1; rw [hcd, hc]; rfl
  · have := s.capn; have := s.capm; unfold maxLen at this; omega
theorem sampleDesignsMatchSpec_walk (w : World) (φ : Phi) (hφ : Fz φ w) (hp : PowP φ) (ht : TabP φ) (cs : Array Value) (x : Int × List Tak) (hx : Rep.rep φ x cs.toList) (g : DsgG x) (ad : Option Addr) (cp : Nat) (l : List Unt) (s : SlV φ ad cp l) (gl : l.length * Tryz.prog.bytesOf 64 ≤ reachBytes ∧ ∀ x ∈ l, IsI64 x.1 ∧ StrG x.2.1 ∧ IsI64 x.2.2.1 ∧ IsI64 x.2.2.2) (a0 : Int) (ga : IsI64 a0) (b0 : Int) (gb : IsI64 b0) :
    Calls Tryz.prog 3 #[.agg cs, .slice ad l.length cp, .int .i64 a0, .int .i64 b0] w fun e w' => e = .returned (.bool true) ∧ Below w.heap.size w w' := by
  obtain ⟨aT, cT, rfl, st, hmT⟩ := dsg_open hx
  exact designs_core hφ ht hp st (Lib.hid rfl) hmT s (Lib.hid rfl) (uns_len gl.1) (Lib.hid (fun u hu => (gl.2 u hu).2.1))
end Go.Proofs.YtnlhalnjbkpdnaaGreatDoor
