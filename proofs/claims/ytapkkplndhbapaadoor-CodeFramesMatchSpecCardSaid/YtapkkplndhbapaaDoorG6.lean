/- The law CodeFramesMatchSpec's walk, at the claim form's data. Conditions: the library's table of powers of ten reads as it was laid. -/
import Derived.Test.YtapkkplndhbapaaDoorG5
namespace Go.Proofs.YtapkkplndhbapaaDoor
open Go.RowKit
set_option linter.unusedVariables false
theorem PCheckFrame_any {w : World} {a : Option Addr} {c n : Nat} {l : List Nod} {φ : Phi} (hφ : Fz φ w) (s : SlV φ a c l) (hn : Hid (l.length = n)) (hm : n ≤ 9223372036854775807) {F : Int} (hF : Hid (treeF l = F)) :
    Calls Tryd.prog 8 #[.slice a n c] w (fun e w' => e = .returned (.int .i64 F) ∧ Below w.heap.size w w') := by
  go_enter Tryd.func8, Tryd.ntmps8
  go_wp2_with fail
  refine (treeOf_any hφ s hn hm).mono ?_
  rintro e w1 ⟨hb, ⟨h0, rfl⟩ | ⟨h0, hok, bt, m1, m2, rfl, ht⟩⟩
  · have HB := Lib.hid hb
    rw [hF.out] at h0 ⊢
    clear hb h0
    go_wp2
    go_ret
    exact ⟨rfl, HB.out⟩
  · have HB := Lib.hid hb
    have H0 := Lib.hid h0
    clear h0 hb hok ht
    go_wp2
    go_ret
    exact ⟨ret_int (by rw [← hF.out, H0.out]), HB.out⟩
set_option maxRecDepth 100000 in
set_option maxHeartbeats 2000000 in
theorem frames_core {w : World} {a : Option Addr} {c n : Nat} {l : List Nod} {φ : Phi} (hφ : Fz φ w) (hp : PowP φ) (s : SlV φ a c l) (hn : Hid (l.length = n)) (hm : n ≤ 9223372036854775807) (x y : Int) :
    Calls Tryd.prog 3 #[.slice a n c, .int .i64 x, .int .i64 y] w (fun e w' => e = .returned (.bool true) ∧ Below w.heap.size w w') := by
  obtain ⟨F, hF⟩ : ∃ F, Hid (treeF l = F) := ⟨_, Lib.hid rfl⟩
  obtain ⟨t, G, ht⟩ : ∃ t G, Hid (textF l = (t, G)) := ⟨_, _, Lib.hid rfl⟩
  obtain ⟨A1, A2, hA⟩ : ∃ A1 A2, Hid (abovF l x = (A1, A2)) := ⟨_, _, Lib.hid rfl⟩
  obtain ⟨W1, W2, hW⟩ : ∃ W1 W2, Hid (witF l x = (W1, W2)) := ⟨_, _, Lib.hid rfl⟩
  obtain ⟨M1, M2, M3, hM⟩ : ∃ M1 M2 M3, Hid (meetF l x y = (M1, M2, M3)) := ⟨_, _, _, Lib.hid rfl⟩
  have gF : (F != F) = false := by simp
  have gG : (G != G) = false := by simp
  have gt : (t.toList == t.toList) = true := str_eq_t rfl
  have gA : (A2 != A2) = false := by simp
  have gW : (W2 != W2) = false := by simp
  have g1 : (M1 == M1) = true := by simp
  have g2 : (M2 == M2) = true := by simp
  have g3 : (M3 == M3) = true := by simp
  have HP := Lib.hid hp
  clear hp
  go_enter Tryd.func3, Tryd.ntmps3
  go_wp2_with fail
  refine (Text_any hφ HP.out s hn hm ht).mono ?_
  rintro e w1 ⟨rfl, hb⟩
  have I1 := Lib.hid ((Inv.start hφ).callB hb)
  clear hb
  go_wp2_with fail
  refine (RText_any I1.out.fz HP.out s hn hm ht).mono ?_
  rintro e w2 ⟨rfl, hb⟩
  have I2 := Lib.hid (I1.out.callB hb)
  clear hb I1
  go_wp2_with fail
  refine (PCheckFrame_any I2.out.fz s hn hm hF).mono ?_
  rintro e w3 ⟨rfl, hb⟩
  have I3 := Lib.hid (I2.out.callB hb)
  clear hb I2
  go_wp2_with fail
  refine (CheckFrame_any n a c l _ φ I3.out.fz s hn hm).mono ?_
  rw [hF.out]
  rintro e w4 ⟨rfl, hb⟩
  have I4 := Lib.hid (I3.out.callB hb)
  clear hb I3
  go_wp2_with fail
  refine (Above_any I4.out.fz s hn hm x).mono ?_
  rw [hA.out]
  rintro e w5 ⟨a5, c5, φ5, rfl, hi, s5⟩
  have I5 := Lib.hid (I4.out.call hi)
  have S5 := Lib.hid s5
  have L5 := Lib.hid hi.le
  clear hi I4 s5
  go_wp2_with fail
  refine (RAbove_any I5.out.fz (s.mono L5.out) hn hm x).mono ?_
  rw [hA.out]
  rintro e w6 ⟨a6, c6, φ6, rfl, hi, s6⟩
  have I6 := Lib.hid (I5.out.call hi)
  have S6 := Lib.hid s6
  have S5' := Lib.hid (S5.out.mono hi.le)
  have L6 := Lib.hid (L5.out.trans hi.le)
  clear hi I5 s6 S5 L5
  dsimp only
  have hl6 := S6.out.capn
  have hm6 := S6.out.capm
  unfold maxLen at hm6
  have hA9 : A1.length ≤ 9223372036854775807 := by dsimp only at hl6; omega
  clear hl6 hm6
  go_wp2_with fail
  refine (EqualI_same _ _ _ A1 _ _ _ φ6 I6.out.fz S5'.out (Lib.hid rfl) hA9 S6.out).mono ?_
  rintro e w7 ⟨rfl, hb⟩
  have I7 := Lib.hid (I6.out.callB hb)
  clear hb I6 S5' S6
  go_wp2_with fail
  refine (PWithin_any I7.out.fz (s.mono L6.out) hn hm x).mono ?_
  rw [hW.out]
  rintro e w8 ⟨a8, c8, φ8, rfl, hi, s8⟩
  have I8 := Lib.hid (I7.out.call hi)
  have S8 := Lib.hid s8
  have L8 := Lib.hid (L6.out.trans hi.le)
  clear hi I7 s8 L6
  go_wp2_with fail
  refine (Within_any I8.out.fz (s.mono L8.out) hn hm x).mono ?_
  rw [hW.out]
  rintro e w9 ⟨a9, c9, φ9, rfl, hi, s9⟩
  have I9 := Lib.hid (I8.out.call hi)
  have S9 := Lib.hid s9
  have S8' := Lib.hid (S8.out.mono hi.le)
  have L9 := Lib.hid (L8.out.trans hi.le)
  clear hi I8 s9 S8 L8
  dsimp only
  have hl9 := S9.out.capn
  have hm9 := S9.out.capm
  unfold maxLen at hm9
  have hW9 : W1.length ≤ 9223372036854775807 := by dsimp only at hl9; omega
  clear hl9 hm9
  go_wp2_with fail
  refine (EqualI_same _ _ _ W1 _ _ _ φ9 I9.out.fz S8'.out (Lib.hid rfl) hW9 S9.out).mono ?_
  rintro e w10 ⟨rfl, hb⟩
  have I10 := Lib.hid (I9.out.callB hb)
  clear hb I9 S8' S9
  go_wp2_with fail
  refine (Meeting_any I10.out.fz (s.mono L9.out) hn hm x y).mono ?_
  rw [hM.out]
  rintro e w11 ⟨rfl, hb⟩
  have I11 := Lib.hid (I10.out.callB hb)
  clear hb I10
  unfold tup3
  go_wp2_with fail
  refine (RMeeting_any I11.out.fz (s.mono L9.out) hn hm x y).mono ?_
  rw [hM.out]
  rintro e w12 ⟨rfl, hb⟩
  have I12 := Lib.hid (I11.out.callB hb)
  clear hb I11
  unfold tup3
  go_wp2
  go_ret
  exact ⟨rfl, I12.out.bel⟩
theorem rNode (H : Type) (enc : TypeId × Value → H) (W : World) : Reads enc Tryd.prog W 22 (List Nod) (fun xs => xs.length * Tryd.prog.bytesOf 38 ≤ reachBytes ∧ ∀ x ∈ xs, IsI64 x.1 ∧ IsI64 x.2.1 ∧ StrG x.2.2) :=
  Reads.slice Tryd.underlying22 (by kernel_rfl) (by decide) (Reads.struct3 (s1 := 1) (s2 := 1) (s3 := 1) Tryd.underlying38 (by kernel_rfl) (by kernel_rfl) (by kernel_rfl) (by kernel_rfl) (by kernel_rfl) (by kernel_rfl) (by kernel_rfl) (rInt H enc W) (rInt H enc W) (rStr H enc W))
theorem codeFramesMatchSpec_walk (w : World) (φ : Phi) (hφ : Fz φ w) (hp : PowP φ) (a : Option Addr) (cap : Nat) (l : List Nod) (s : SlV φ a cap l) (g : l.length * Tryd.prog.bytesOf 38 ≤ reachBytes ∧ ∀ x ∈ l, IsI64 x.1 ∧ IsI64 x.2.1 ∧ StrG x.2.2) (x : Int) (gx : IsI64 x) (y : Int) (gy : IsI64 y) :
    Calls Tryd.prog 3 #[.slice a l.length cap, .int .i64 x, .int .i64 y] w fun e w' => e = .returned (.bool true) ∧ Below w.heap.size w w' :=
  frames_core hφ hp s (Lib.hid rfl) (by have := s.capn; have := s.capm; unfold maxLen at this; omega) x y
end Go.Proofs.YtapkkplndhbapaaDoor
