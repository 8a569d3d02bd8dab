/- Walks of the choice of a window, on both sides. Conditions: the attempts and windows are checked ones. -/
import Derived.Test.YtmgdeenjdoennaaC3
namespace Go.Proofs.Ytmgdeenjdoennaa
open Go.RowKit
set_option linter.unusedVariables false

def inW (F T m : Int) : Prop := F ≤ m % 1440 ∧ m % 1440 < T
instance (F T m : Int) : Decidable (inW F T m) := by unfold inW; exact inferInstance
def cntTo (l : List (Int × Int)) (F T : Int) : Nat → Int
  | 0 => 0
  | j + 1 => cntTo l F T j + if inW F T (l.getD j (0, 0)).1 then 1 else 0
theorem cntTo_bd (l : List (Int × Int)) (F T : Int) : ∀ j, 0 ≤ cntTo l F T j ∧ cntTo l F T j ≤ j
  | 0 => by simp [cntTo]
  | j + 1 => by have := cntTo_bd l F T j; simp only [cntTo]; split <;> omega
def nextTo (m0 : Int) (l : List (Int × Int)) (wins : List (Int × Int)) (n : Nat) : Nat → (Int × Int) × Int
  | 0 => ((0, 0), m0)
  | k + 1 =>
    let c := cntTo l (wins.getD k (0, 0)).1 (wins.getD k (0, 0)).2 n
    if c < (nextTo m0 l wins n k).2 then (wins.getD k (0, 0), c) else nextTo m0 l wins n k
theorem nextTo_bd (m0 : Int) (l wins : List (Int × Int)) (n : Nat) (h0 : 0 ≤ m0) : ∀ k, 0 ≤ (nextTo m0 l wins n k).2 ∧ (nextTo m0 l wins n k).2 ≤ m0
  | 0 => by simp [nextTo, h0]
  | k + 1 => by
    have := nextTo_bd m0 l wins n h0 k
    have h2 := cntTo_bd l (wins.getD k (0, 0)).1 (wins.getD k (0, 0)).2 n
    simp only [nextTo]; split
    · simp only; omega
    · exact this
theorem nextTo_step (m0 : Int) (l wins : List (Int × Int)) (n k : Nat) {F T : Int} (hF : (wins.getD k (0, 0)).1 = F) (hT : (wins.getD k (0, 0)).2 = T) :
    nextTo m0 l wins n (k + 1) = if cntTo l F T n < (nextTo m0 l wins n k).2 then ((F, T), cntTo l F T n) else nextTo m0 l wins n k := by
  subst hF; subst hT; rfl
theorem nextTo_eq (m0 m1 : Int) (l wins : List (Int × Int)) (n : Nat) (h0 : (n : Int) < m0) (h1 : (n : Int) < m1) : ∀ k, nextTo m0 l wins n (k + 1) = nextTo m1 l wins n (k + 1)
  | 0 => by
    have h2 := cntTo_bd l (wins.getD 0 (0, 0)).1 (wins.getD 0 (0, 0)).2 n
    have e0 : (nextTo m0 l wins n 0).2 = m0 := rfl
    have e1 : (nextTo m1 l wins n 0).2 = m1 := rfl
    rw [nextTo_step m0 l wins n 0 rfl rfl, nextTo_step m1 l wins n 0 rfl rfl, e0, e1, if_pos (by omega), if_pos (by omega)]
  | k + 1 => by
    rw [nextTo_step m0 l wins n (k + 1) rfl rfl, nextTo_step m1 l wins n (k + 1) rfl rfl, nextTo_eq m0 m1 l wins n h0 h1 k]
theorem cntTo_yes {l : List (Int × Int)} {F T : Int} {j : Nat} {m : Int} (hm : Hid ((l.getD j (0, 0)).1 = m)) (h : inW F T m) : cntTo l F T (j + 1) = cntTo l F T j + 1 := by rw [cntTo, hm.out, if_pos h]
theorem cntTo_no {l : List (Int × Int)} {F T : Int} {j : Nat} {m : Int} (hm : Hid ((l.getD j (0, 0)).1 = m)) (h : ¬ inW F T m) : cntTo l F T (j + 1) = cntTo l F T j := by rw [cntTo, hm.out, if_neg h]; simp

/-- The attempts are checked ones; the windows are. -/
def AttOk (l : List (Int × Int)) (n : Nat) : Prop := ∀ i, i < n → 0 ≤ (l.getD i (0, 0)).1 ∧ (l.getD i (0, 0)).1 ≤ 1099511627776
def WinOk (wins : List (Int × Int)) (n : Nat) : Prop := ∀ i, i < n → 0 ≤ (wins.getD i (0, 0)).1 ∧ (wins.getD i (0, 0)).1 < (wins.getD i (0, 0)).2 ∧ (wins.getD i (0, 0)).2 ≤ 1440
def WinB (r : Int × Int) (w : World) (e : Ending) (w' : World) : Prop := e = .returned (.agg #[.int .i64 r.1, .int .i64 r.2]) ∧ Below w.heap.size w w'

set_option maxRecDepth 100000 in
set_option maxHeartbeats 1000000 in
theorem next_any (most gap : Int) (n1 n2 n : Nat) (a1 a2 a : Option Addr) (c1 c2 c : Nat) (wins l : List (Int × Int)) (w : World) (φ : Phi) (hφ : Fz φ w) (s2 : SlV φ a2 c2 wins) (s : SlV φ a c l) (l2 : Hid (wins.length = n2)) (ln : Hid (l.length = n)) (hn : n ≤ 100) (h2 : n2 ≤ 8)
    (hA : Hid (AttOk l n)) (hW : Hid (WinOk wins n2)) :
    Calls Try.prog 29 #[.agg #[.int .i64 most, .int .i64 gap, .slice a1 n1 c1, .slice a2 n2 c2], .slice a n c] w (WinB (nextTo ((n : Int) + 1) l wins n n2).1 w) := by
  have bel0 : ∀ o1 o2 o3, Below w.heap.size w (((w.alloc o1).alloc o2).alloc o3) := fun o1 o2 o3 => (((Below.refl _ _).alloc (Nat.le_refl _) o1).alloc (by simp) o2).alloc (by simp; omega) o3
  have k1 : ∀ o3, Blk (((w.alloc (.cells #[.int .i64 most, .int .i64 gap, .slice a1 n1 c1, .slice a2 n2 c2] 33)).alloc (.cells #[.int .i64 0, .int .i64 0] 48)).alloc o3) (w.heap.size + 1) #[.int .i64 0, .int .i64 0] 48 := fun o3 => by
    have := Blk.new (w.alloc (.cells #[.int .i64 most, .int .i64 gap, .slice a1 n1 c1, .slice a2 n2 c2] 33)) #[.int .i64 0, .int .i64 0] 48
    simp at this
    exact this.alloc o3
  have k2 : Blk (((w.alloc (.cells #[.int .i64 most, .int .i64 gap, .slice a1 n1 c1, .slice a2 n2 c2] 33)).alloc (.cells #[.int .i64 0, .int .i64 0] 48)).alloc (.cells #[.int .i64 0, .int .i64 0] 48)) (w.heap.size + 2) #[.int .i64 0, .int .i64 0] 48 := by
    have := Blk.new ((w.alloc (.cells #[.int .i64 most, .int .i64 gap, .slice a1 n1 c1, .slice a2 n2 c2] 33)).alloc (.cells #[.int .i64 0, .int .i64 0] 48)) #[.int .i64 0, .int .i64 0] 48
    simpa using this
  have K1 := Lib.hid k1
  have K2 := Lib.hid k2
  clear k1 k2
  go_enter Try.func29, Try.ntmps29
  go_wp2
  go_loopw [6, 20] (fun m i wr => ∃ k : Nat, k ≤ n2 ∧ i = .int .i64 k ∧ m = .int .i64 (nextTo ((n : Int) + 1) l wins n k).2 ∧ Below w.heap.size w wr ∧ Blk wr (w.heap.size + 1) #[.int .i64 0, .int .i64 0] 48 ∧ Blk wr (w.heap.size + 2) #[.int .i64 (nextTo ((n : Int) + 1) l wins n k).1.1, .int .i64 (nextTo ((n : Int) + 1) l wins n k).1.2] 48) (fun _ i _ => n2 - (intOf i).toNat)
  case atStart => exact ⟨0, Nat.zero_le _, rfl, rfl, bel0 _ _ _, K1.out _, K2.out⟩
  case round =>
    obtain ⟨k, hk, rfl, rfl, hbel, b1, b2⟩ := hrel
    have hmb := nextTo_bd ((n : Int) + 1) l wins n (by omega) k
    by_cases hlt : k < n2
    · obtain ⟨b, off, rfl, f⟩ := s2.pairsD l2 hlt
      obtain ⟨hb, q1, q2⟩ := f k hlt wr (hφ.below hbel)
      have hwk := hW.out k hlt
      have hstep : Hid (∀ F T, (wins.getD k (0, 0)).1 = F → (wins.getD k (0, 0)).2 = T → _) := Lib.hid (fun F T hF hT => nextTo_step ((n : Int) + 1) l wins n k hF hT)
      have hFT := Lib.hid (hstep.out _ _ rfl rfl)
      clear f hstep
      generalize hF : (wins.getD k (0, 0)).1 = F at *
      generalize hT : (wins.getD k (0, 0)).2 = T at *
      have hF := Lib.hid hF
      have hT := Lib.hid hT
      generalize hcur : nextTo ((n : Int) + 1) l wins n k = cur at *
      have hcur := Lib.hid hcur
      obtain ⟨⟨cF, cT⟩, cm⟩ := cur
      dsimp only at *
      have B1 := Lib.hid b1
      have B2 := Lib.hid b2
      clear b1 b2
      have HB := Lib.hid hbel
      have hsz : w.heap.size + 2 < wr.heap.size := B2.out.lt
      clear hbel
      have kb : Blk (wr.alloc (.cells #[.int .i64 F, .int .i64 T] 48)) wr.heap.size #[.int .i64 F, .int .i64 T] 48 := Blk.new _ _ _
      have KB := Lib.hid kb
      clear kb
      go_wp2
      generalize hwx : wr.alloc (.cells #[.int .i64 F, .int .i64 T] 48) = wx at *
      have hxs : wr.heap.size < wx.heap.size := by rw [← hwx]; simp
      have hxb : Hid (Below w.heap.size w wx) := Lib.hid (by rw [← hwx]; exact HB.out.alloc HB.out.size _)
      have B1 : Hid (Blk wx (w.heap.size + 1) #[.int .i64 0, .int .i64 0] 48) := Lib.hid (by rw [← hwx]; exact B1.out.alloc _)
      have B2 : Hid (Blk wx (w.heap.size + 2) #[.int .i64 cF, .int .i64 cT] 48) := Lib.hid (by rw [← hwx]; exact B2.out.alloc _)
      clear hwx HB
      generalize wr.heap.size = g8 at *
      go_loopw [9, 26] (fun q i wz => ∃ j : Nat, j ≤ n ∧ i = .int .i64 j ∧ q = .int .i64 (cntTo l F T j) ∧ Below wx.heap.size wx wz) (fun _ i _ => n - (intOf i).toNat)
      case atStart => exact ⟨0, Nat.zero_le _, rfl, rfl, Below.refl _ _⟩
      case round =>
        obtain ⟨j, hj, rfl, rfl, hbz⟩ := hrel
        have hcb := cntTo_bd l F T j
        have KW := Lib.hid (KB.out.callB hbz)
        have hzs : wx.heap.size ≤ wr.heap.size := hbz.size
        have hg8 : g8 < wr.heap.size := by omega
        have g0 := KW.out.cell 0
        have g1 := KW.out.cell 1
        simp at g0 g1
        by_cases hjn : j < n
        · obtain ⟨b', off', rfl, f⟩ := s.pairsD ln hjn
          obtain ⟨hb', q1', q2'⟩ := f j hjn wr (hφ.below (hxb.out.trans (hbz.mono hxb.out.size)))
          have ha := hA.out j hjn
          have hbz2 : ∀ o, Below wx.heap.size wx (wr.alloc o) := fun o => hbz.alloc (by omega) o
          clear f
          generalize hM : (l.getD j (0, 0)).1 = mm at *
          have hM := Lib.hid hM
          generalize (l.getD j (0, 0)).2 = oo at *
          by_cases h1 : F ≤ mm % 1440
          · by_cases h3 : mm % 1440 < T
            · go_wp2
              go_roundw
              case rel => exact ⟨j + 1, by omega, by go_num, by rw [cntTo_yes hM ⟨h1, h3⟩], hbz2 _⟩
              case measure => simp [intOf]; omega
            · go_wp2
              go_roundw
              case rel => exact ⟨j + 1, by omega, by go_num, by rw [cntTo_no hM (fun h => by have := h.2; omega)], hbz2 _⟩
              case measure => simp [intOf]; omega
          · go_wp2
            go_roundw
            case rel => exact ⟨j + 1, by omega, by go_num, by rw [cntTo_no hM (fun h => by have := h.1; omega)], hbz2 _⟩
            case measure => simp [intOf]; omega
        · obtain rfl : j = n := by omega
          have B1 : Hid (Blk wr (w.heap.size + 1) #[.int .i64 0, .int .i64 0] 48) := Lib.hid (B1.out.callB hbz)
          have B2 : Hid (Blk wr (w.heap.size + 2) #[.int .i64 cF, .int .i64 cT] 48) := Lib.hid (B2.out.callB hbz)
          have e0 := B2.out.cell 0
          have e1 := B2.out.cell 1
          have z0 := B2.out.frz 0
          have z1 := B2.out.frz 1
          have B3 := Lib.hid ((B2.out.set 0 (.int .i64 F)).set 1 (.int .i64 T))
          have B4 := Lib.hid ((B1.out.other (a := ⟨w.heap.size + 2, 0, none⟩) (by simp) (.int .i64 F)).other (a := ⟨w.heap.size + 2, 1, none⟩) (by simp) (.int .i64 T))
          have e2 := (B2.out.set 0 (.int .i64 F)).cell 1
          have z2 := (B2.out.set 0 (.int .i64 F)).frz 1
          simp at e0 e1 e2
          have hbw : Hid (Below w.heap.size w wr) := Lib.hid (hxb.out.trans (hbz.mono hxb.out.size))
          by_cases hc : cntTo l F T j < cm
          · go_wp2
            go_roundw
            case rel => exact ⟨k + 1, by omega, by go_num, by rw [hFT.out, if_pos hc], (hbw.out.setCell (p := ⟨w.heap.size + 2, 0, none⟩) (by simp) _).setCell (p := ⟨w.heap.size + 2, 1, none⟩) (by simp) _, B4.out, by rw [hFT.out, if_pos hc]; simpa using B3.out⟩
            case measure => simp [intOf]; omega
          · go_wp2
            go_roundw
            case rel => exact ⟨k + 1, by omega, by go_num, by rw [hFT.out, if_neg hc], hbw.out, B1.out, by rw [hFT.out, if_neg hc]; exact B2.out⟩
            case measure => simp [intOf]; omega
    · obtain rfl : k = n2 := by omega
      have e0 := b2.cell 0
      have e1 := b2.cell 1
      have f0 := b1.cell 0
      have f1 := b1.cell 1
      have z0 := b1.frz 0
      have z1 := (b1.set 0 (.int .i64 (nextTo ((n : Int) + 1) l wins n k).1.1)).frz 1
      have f2 := (b1.set 0 (.int .i64 (nextTo ((n : Int) + 1) l wins n k).1.1)).cell 1
      have r1 := ((b1.set 0 (.int .i64 (nextTo ((n : Int) + 1) l wins n k).1.1)).set 1 (.int .i64 (nextTo ((n : Int) + 1) l wins n k).1.2)).cell 0
      have r2 := ((b1.set 0 (.int .i64 (nextTo ((n : Int) + 1) l wins n k).1.1)).set 1 (.int .i64 (nextTo ((n : Int) + 1) l wins n k).1.2)).cell 1
      simp at e0 e1 f0 f1 f2 r1 r2
      have HB := Lib.hid hbel
      clear b1 b2 hbel
      go_wp2
      refine bodyPost_ret (v := .agg #[.int .i64 (nextTo ((n : Int) + 1) l wins n k).1.1, .int .i64 (nextTo ((n : Int) + 1) l wins n k).1.2]) (by simp [results, Try.results29, go_sem, r1, r2]) rfl ⟨rfl, ?_⟩
      exact (HB.out.setCell (p := ⟨w.heap.size + 1, 0, none⟩) (by simp) _).setCell (p := ⟨w.heap.size + 1, 1, none⟩) (by simp) _
end Go.Proofs.Ytmgdeenjdoennaa
