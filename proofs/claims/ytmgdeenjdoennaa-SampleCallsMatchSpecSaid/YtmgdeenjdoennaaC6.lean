/- The walk of the reference's choice of a window. Conditions: the attempts and windows are checked ones. -/
import Derived.Test.YtmgdeenjdoennaaC5
namespace Go.Proofs.Ytmgdeenjdoennaa
open Go.RowKit
set_option linter.unusedVariables false

set_option maxRecDepth 100000 in
set_option maxHeartbeats 1000000 in
theorem rnext_any (most gap : Int) (n1 n2 n : Nat) (a1 a2 a : Option Addr) (c1 c2 c : Nat) (wins l : List (Int × Int)) (w : World) (φ : Phi) (hφ : Fz φ w) (s2 : SlV φ a2 c2 wins) (s : SlV φ a c l) (l2 : Hid (wins.length = n2)) (ln : Hid (l.length = n)) (hn : n ≤ 100) (h2 : n2 ≤ 8)
    (hA : Hid (AttOk l n)) (hW : Hid (WinOk wins n2)) :
    Calls Try.prog 31 #[.agg #[.int .i64 most, .int .i64 gap, .slice a1 n1 c1, .slice a2 n2 c2], .slice a n c] w (WinB (nextTo 101 l wins n n2).1 w) := by
  have bel0 : ∀ o1 o2 o3, Below w.heap.size w (((w.alloc o1).alloc o2).alloc o3) := fun o1 o2 o3 => (((Below.refl _ _).alloc (Nat.le_refl _) o1).alloc (by simp) o2).alloc (by simp; omega) o3
  have k1 : ∀ o3, Blk (((w.alloc (.cells #[.int .i64 most, .int .i64 gap, .slice a1 n1 c1, .slice a2 n2 c2] 33)).alloc (.cells #[.int .i64 0, .int .i64 0] 48)).alloc o3) (w.heap.size + 1) #[.int .i64 0, .int .i64 0] 48 := fun o3 => by
    have := Blk.new (w.alloc (.cells #[.int .i64 most, .int .i64 gap, .slice a1 n1 c1, .slice a2 n2 c2] 33)) #[.int .i64 0, .int .i64 0] 48
    simp at this
    exact this.alloc o3
  have k2 : Blk (((w.alloc (.cells #[.int .i64 most, .int .i64 gap, .slice a1 n1 c1, .slice a2 n2 c2] 33)).alloc (.cells #[.int .i64 0, .int .i64 0] 48)).alloc (.cells #[.int .i64 0, .int .i64 0] 48)) (w.heap.size + 2) #[.int .i64 0, .int .i64 0] 48 := by
    have := Blk.new ((w.alloc (.cells #[.int .i64 most, .int .i64 gap, .slice a1 n1 c1, .slice a2 n2 c2] 33)).alloc (.cells #[.int .i64 0, .int .i64 0] 48)) #[.int .i64 0, .int .i64 0] 48
    simpa using this
  have K1 := Lib.hid k1
  have K2 := Lib.hid k2
  clear k1 k2
  go_enter Try.func31, Try.ntmps31
  go_wp2
  go_loopw [6, 15] (fun m i wr => ∃ k : Nat, k ≤ n2 ∧ i = .int .i64 k ∧ m = .int .i64 (nextTo 101 l wins n k).2 ∧ Below w.heap.size w wr ∧ Blk wr (w.heap.size + 1) #[.int .i64 0, .int .i64 0] 48 ∧ Blk wr (w.heap.size + 2) #[.int .i64 (nextTo 101 l wins n k).1.1, .int .i64 (nextTo 101 l wins n k).1.2] 48) (fun _ i _ => n2 - (intOf i).toNat)
  case atStart => exact ⟨0, Nat.zero_le _, rfl, rfl, bel0 _ _ _, K1.out _, K2.out⟩
  case round =>
    obtain ⟨k, hk, rfl, rfl, hbel, b1, b2⟩ := hrel
    have hmb := nextTo_bd 101 l wins n (by omega) k
    by_cases hlt : k < n2
    · obtain ⟨b, off, rfl, f⟩ := s2.pairsD l2 hlt
      obtain ⟨hb, q1, q2⟩ := f k hlt wr (hφ.below hbel)
      have hwk := hW.out k hlt
      have hstep : Hid (∀ F T, (wins.getD k (0, 0)).1 = F → (wins.getD k (0, 0)).2 = T → _) := Lib.hid (fun F T hF hT => nextTo_step 101 l wins n k hF hT)
      have hFT := Lib.hid (hstep.out _ _ rfl rfl)
      clear f hstep
      generalize hF : (wins.getD k (0, 0)).1 = F at *
      generalize hT : (wins.getD k (0, 0)).2 = T at *
      have hF := Lib.hid hF
      have hT := Lib.hid hT
      generalize hcur : nextTo 101 l wins n k = cur at *
      have hcur := Lib.hid hcur
      obtain ⟨⟨cF, cT⟩, cm⟩ := cur
      dsimp only at *
      have B1 := Lib.hid b1
      have B2 := Lib.hid b2
      clear b1 b2
      have HB := Lib.hid hbel
      have hsz : w.heap.size + 2 < wr.heap.size := B2.out.lt
      clear hbel
      have kb : Blk (wr.alloc (.cells #[.int .i64 F, .int .i64 T] 48)) wr.heap.size #[.int .i64 F, .int .i64 T] 48 := Blk.new _ _ _
      have KB := Lib.hid kb
      clear kb
      go_wp2
      generalize hwx : wr.alloc (.cells #[.int .i64 F, .int .i64 T] 48) = wx at *
      have hxs : wr.heap.size < wx.heap.size := by rw [← hwx]; simp
      have hxb : Hid (Below w.heap.size w wx) := Lib.hid (by rw [← hwx]; exact HB.out.alloc HB.out.size _)
      have B1 : Hid (Blk wx (w.heap.size + 1) #[.int .i64 0, .int .i64 0] 48) := Lib.hid (by rw [← hwx]; exact B1.out.alloc _)
      have B2 : Hid (Blk wx (w.heap.size + 2) #[.int .i64 cF, .int .i64 cT] 48) := Lib.hid (by rw [← hwx]; exact B2.out.alloc _)
      clear hwx HB
      generalize wr.heap.size = g8 at *
      go_loopw [9, 21] (fun q i wz => ∃ j : Nat, j ≤ n ∧ i = .int .i64 j ∧ q = .int .i64 (cntTo l F T j) ∧ Below wx.heap.size wx wz) (fun _ i _ => n - (intOf i).toNat)
      case atStart => exact ⟨0, Nat.zero_le _, rfl, rfl, Below.refl _ _⟩
      case round =>
        obtain ⟨j, hj, rfl, rfl, hbz⟩ := hrel
        have hcb := cntTo_bd l F T j
        have KW := Lib.hid (KB.out.callB hbz)
        have hzs : wx.heap.size ≤ wr.heap.size := hbz.size
        have hg8 : g8 < wr.heap.size := by omega
        have g0 := KW.out.cell 0
        have g1 := KW.out.cell 1
        simp at g0 g1
        by_cases hjn : j < n
        · obtain ⟨b', off', rfl, f⟩ := s.pairsD ln hjn
          obtain ⟨hb', q1', q2'⟩ := f j hjn wr (hφ.below (hxb.out.trans (hbz.mono hxb.out.size)))
          have ha := hA.out j hjn
          have hbz2 : ∀ o, Below wx.heap.size wx (wr.alloc o) := fun o => hbz.alloc (by omega) o
          clear f
          generalize hM : (l.getD j (0, 0)).1 = mm at *
          have hM := Lib.hid hM
          generalize (l.getD j (0, 0)).2 = oo at *
          by_cases h1 : F ≤ mm % 1440 ∧ mm % 1440 < T
          · have H1 := Lib.hid (outB_false.2 (show F ≤ mm % 1440 ∧ mm % 1440 ≤ T - 1 by omega))
            go_wp2_with fail
            refine (within_t _ _ _ _ H1.out).mono ?_
            rintro e w' ⟨rfl, rfl⟩
            go_wp2
            go_roundw
            case rel => exact ⟨j + 1, by omega, by go_num, by rw [cntTo_yes hM h1], hbz2 _⟩
            case measure => simp [intOf]; omega
          · have H1 := Lib.hid (outB_true.2 (show mm % 1440 < F ∨ T - 1 < mm % 1440 by omega))
            go_wp2_with fail
            refine (within_f _ _ _ _ H1.out).mono ?_
            rintro e w' ⟨rfl, rfl⟩
            go_wp2
            go_roundw
            case rel => exact ⟨j + 1, by omega, by go_num, by rw [cntTo_no hM h1], hbz2 _⟩
            case measure => simp [intOf]; omega
        · obtain rfl : j = n := by omega
          have B1 : Hid (Blk wr (w.heap.size + 1) #[.int .i64 0, .int .i64 0] 48) := Lib.hid (B1.out.callB hbz)
          have B2 : Hid (Blk wr (w.heap.size + 2) #[.int .i64 cF, .int .i64 cT] 48) := Lib.hid (B2.out.callB hbz)
          have e0 := B2.out.cell 0
          have e1 := B2.out.cell 1
          have z0 := B2.out.frz 0
          have z1 := B2.out.frz 1
          have B3 := Lib.hid ((B2.out.set 0 (.int .i64 F)).set 1 (.int .i64 T))
          have B4 := Lib.hid ((B1.out.other (a := ⟨w.heap.size + 2, 0, none⟩) (by simp) (.int .i64 F)).other (a := ⟨w.heap.size + 2, 1, none⟩) (by simp) (.int .i64 T))
          have e2 := (B2.out.set 0 (.int .i64 F)).cell 1
          have z2 := (B2.out.set 0 (.int .i64 F)).frz 1
          simp at e0 e1 e2
          have hbw : Hid (Below w.heap.size w wr) := Lib.hid (hxb.out.trans (hbz.mono hxb.out.size))
          by_cases hc : cntTo l F T j < cm
          · go_wp2
            go_roundw
            case rel => exact ⟨k + 1, by omega, by go_num, by rw [hFT.out, if_pos hc], (hbw.out.setCell (p := ⟨w.heap.size + 2, 0, none⟩) (by simp) _).setCell (p := ⟨w.heap.size + 2, 1, none⟩) (by simp) _, B4.out, by rw [hFT.out, if_pos hc]; simpa using B3.out⟩
            case measure => simp [intOf]; omega
          · go_wp2
            go_roundw
            case rel => exact ⟨k + 1, by omega, by go_num, by rw [hFT.out, if_neg hc], hbw.out, B1.out, by rw [hFT.out, if_neg hc]; exact B2.out⟩
            case measure => simp [intOf]; omega
    · obtain rfl : k = n2 := by omega
      have e0 := b2.cell 0
      have e1 := b2.cell 1
      have f0 := b1.cell 0
      have f1 := b1.cell 1
      have z0 := b1.frz 0
      have z1 := (b1.set 0 (.int .i64 (nextTo 101 l wins n k).1.1)).frz 1
      have f2 := (b1.set 0 (.int .i64 (nextTo 101 l wins n k).1.1)).cell 1
      have r1 := ((b1.set 0 (.int .i64 (nextTo 101 l wins n k).1.1)).set 1 (.int .i64 (nextTo 101 l wins n k).1.2)).cell 0
      have r2 := ((b1.set 0 (.int .i64 (nextTo 101 l wins n k).1.1)).set 1 (.int .i64 (nextTo 101 l wins n k).1.2)).cell 1
      simp at e0 e1 f0 f1 f2 r1 r2
      have HB := Lib.hid hbel
      clear b1 b2 hbel
      go_wp2
      refine bodyPost_ret (v := .agg #[.int .i64 (nextTo 101 l wins n k).1.1, .int .i64 (nextTo 101 l wins n k).1.2]) (by simp [results, Try.results31, go_sem, r1, r2]) rfl ⟨rfl, ?_⟩
      exact (HB.out.setCell (p := ⟨w.heap.size + 1, 0, none⟩) (by simp) _).setCell (p := ⟨w.heap.size + 1, 1, none⟩) (by simp) _
end Go.Proofs.Ytmgdeenjdoennaa
