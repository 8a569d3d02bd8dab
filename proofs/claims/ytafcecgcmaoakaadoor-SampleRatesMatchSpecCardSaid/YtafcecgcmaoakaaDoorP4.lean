/- The program's ratios: the walks of ratio, RatioOf and fraction. Conditions: the library's table of powers of ten reads as it was laid. -/
import Derived.Test.YtafcecgcmaoakaaDoorP3
import Derived.Test.YtafcecgcmaoakaaDoorA6
import Derived.Deep.RegionHeld3
namespace Go.Proofs.YtafcecgcmaoakaaDoor
open Go.RowKit
set_option linter.unusedVariables false
theorem digits_S {w0 W : World} {φ0 φ : Phi} {b g : Nat} {cs ds : Array Value} {T E : TypeId} {m k : Nat} {a : Option Addr} {c : Nat} (hp : Hid (PowP φ)) (s : Hid (SlV φ a c (limbs m))) (hk : Hid ((limbs m).length = k)) (hk9 : k ≤ 1000000000) {t : ByteArray} (ht : Hid (decB m = t)) (h : Hid (Fr2 w0 φ0 φ b cs T g ds E W)) :
    Calls Tryd.prog 111 #[.slice a k c] W (fun e w' => e = .returned (.string t) ∧ Hid (Fr2 w0 φ0 φ b cs T g ds E w')) := by
  refine (digits_any h.out.x.inv.fz hp.out s.out hk hk9 ht).mono ?_
  rintro e w' ⟨rfl, hb⟩
  exact ⟨rfl, Lib.hid (h.out.callB hb)⟩
set_option maxRecDepth 100000 in
set_option maxHeartbeats 2000000 in
theorem ratio_any {M : Nat} (hD : Hid (DivOk M)) (hM : LenB M) {neg : Bool} {n d k1 k2 : Nat} {a1 a2 : Option Addr} {c1 c2 : Nat} {w : World} {φ : Phi} (hφ : Fz φ w) (hp : PowP φ) (s1 : SlV φ a1 c1 (limbs n)) (s2 : SlV φ a2 c2 (limbs d)) (h1 : Hid ((limbs n).length = k1)) (h2 : Hid ((limbs d).length = k2)) (hn : n ≤ M) (hd : d ≤ M) (hd0 : 0 < d) {S T : ByteArray} {F : Int} (hR : Hid (ratR (rat neg n d) = (S, T, F))) :
    Calls Tryd.prog 79 #[.agg #[.bool neg, .slice a1 k1 c1, .slice a2 k2 c2]] w (fun e w' => e = .returned (.tuple #[.agg #[.string S, .string T], .int .i64 F]) ∧ Below w.heap.size w w') := by
  have hBX0 := RsSt.start (Inv.start hφ) #[.bool neg, .slice a1 k1 c1, .slice a2 k2 c2] 120
  have hRS0 := RsSt.start hBX0.inv #[.string ⟨#[]⟩, .string ⟨#[]⟩] 34
  have hBX1 := (hBX0.callB ((Below.refl _ _).alloc (Nat.le_refl _) (.cells #[.string ⟨#[]⟩, .string ⟨#[]⟩] 34)))
  rw [alloc_sz] at hRS0
  have hF0 : Hid (Fr2 w φ φ w.heap.size #[.bool neg, .slice a1 k1 c1, .slice a2 k2 c2] 120 (w.heap.size + 1) #[.string ⟨#[]⟩, .string ⟨#[]⟩] 34 _) := Lib.hid ⟨hBX1, hRS0⟩
  clear hBX0 hRS0 hBX1
  obtain ⟨g, hg⟩ : ∃ g, Nat.gcd n d = g := ⟨_, rfl⟩
  have hg0 : 0 < g := by rw [← hg]; exact gcd_dle hd0
  obtain ⟨q1, hq1⟩ : ∃ k, Hid ((limbs (n / g)).length = k) := ⟨_, Lib.hid rfl⟩
  obtain ⟨q2, hq2⟩ : ∃ k, Hid ((limbs (d / g)).length = k) := ⟨_, Lib.hid rfl⟩
  have hl1 : q1 ≤ 1000000000 := by rw [← hq1.out]; exact hM.len (Nat.le_trans (Nat.div_le_self n g) hn)
  have hl2 : q2 ≤ 1000000000 := by rw [← hq2.out]; exact hM.len (Nat.le_trans (Nat.div_le_self d g) hd)
  obtain ⟨ng, hng⟩ : ∃ b, Hid ((neg && decide (n / g ≠ 0)) = b) := ⟨_, Lib.hid rfl⟩
  obtain ⟨s, hs⟩ : ∃ s, Hid (decB (n / g) = s) := ⟨_, Lib.hid rfl⟩
  obtain ⟨t, ht⟩ : ∃ s, Hid (decB (d / g) = s) := ⟨_, Lib.hid rfl⟩
  have hRR : Hid (ratN ng s t = (S, T, F)) := Lib.hid (by
    have := hR.out
    rw [ratR_eq hd0, hg, hng.out, hs.out, ht.out] at this
    exact this)
  have hss : s.size ≤ 9000000000 := by
    rw [← hs.out, decB_bl, bl_size]
    by_cases h0 : n / g = 0
    · rw [h0, dec_lt (by omega)]; simp
    · rw [← cat9_trim h0]
      refine Nat.le_trans (List.dropWhile_sublist _).length_le ?_
      rw [cat9_len, hq1.out]; omega
  have htt : t.size ≤ 9000000000 := by
    rw [← ht.out, decB_bl, bl_size]
    by_cases h0 : d / g = 0
    · rw [h0, dec_lt (by omega)]; simp
    · rw [← cat9_trim h0]
      refine Nat.le_trans (List.dropWhile_sublist _).length_le ?_
      rw [cat9_len, hq2.out]; omega
  have hC := Lib.hid (fun W (hf : Fz φ W) => (lowest_any (neg := neg) hD hf s1 s2 h1 h2 hn hd hd0))
  rw [hg, hng.out] at hC
  have HP := Lib.hid hp
  clear s1 s2 hφ hp hR hg
  obtain ⟨bb, hbb⟩ : ∃ b, Hid (w.heap.size = b) := ⟨_, Lib.hid rfl⟩
  rw [hbb.out] at hF0
  go_enter Tryd.func79, Tryd.ntmps79
  have x0 := hF0.out.x.k.frz 0
  have x1 := hF0.out.x.k.frz 1
  have x2 := hF0.out.x.k.frz 2
  go_wp2_with (go_at_call 110; rw [hbb.out]; refine (hC.out _ hF0.out.x.inv.fz).mono ?_; rintro e w1 ⟨a3, c3, a4, c4, φ1, rfl, hi1, hs3, hs4⟩; rw [hq1.out, hq2.out]; have X1 := Lib.hid (hF0.out.x.call hi1); have R1 := Lib.hid (hF0.out.r.call hi1); have L1 := Lib.hid hi1.le; have SN := Lib.hid hs3; have SD := Lib.hid hs4; have x0 := X1.out.k.frz 0; have x1 := X1.out.k.frz 1; have x2 := X1.out.k.frz 2; have y0 : w1.cell? ⟨bb, 0, none⟩ = some (.bool neg) := X1.out.k.cell 0; have y1 : w1.cell? ⟨bb, 1, none⟩ = some (.slice a1 k1 c1) := X1.out.k.cell 1; have y2 : w1.cell? ⟨bb, 2, none⟩ = some (.slice a2 k2 c2) := X1.out.k.cell 2; clear hi1 hs3 hs4)
  have hF1 : Hid (Fr2 w φ φ1 bb #[.bool ng, .slice a3 q1 c3, .slice a4 q2 c4] 120 (bb + 1) #[.string ⟨#[]⟩, .string ⟨#[]⟩] 34 (((w1.setCell ⟨bb, 0, none⟩ (.bool ng)).setCell ⟨bb, 1, none⟩ (.slice a3 q1 c3)).setCell ⟨bb, 2, none⟩ (.slice a4 q2 c4))) := Lib.hid
    ⟨((X1.out.set 0 (.bool ng)).set 1 (.slice a3 q1 c3)).set 2 (.slice a4 q2 c4),
     (((R1.out.oth X1.out (by omega) 0 (.bool ng)).oth (X1.out.set 0 (.bool ng)) (by omega) 1 (.slice a3 q1 c3)).oth ((X1.out.set 0 (.bool ng)).set 1 (.slice a3 q1 c3)) (by omega) 2 (.slice a4 q2 c4))⟩
  clear X1 R1 x0 x1 x2 y0 y1 y2
  generalize ((w1.setCell ⟨bb, 0, none⟩ (.bool ng)).setCell ⟨bb, 1, none⟩ (.slice a3 q1 c3)).setCell ⟨bb, 2, none⟩ (.slice a4 q2 c4) = wx at *
  have HP1 := Lib.hid (HP.out.mono L1.out)
  have hFd : Hid (Fr2 w φ φ1 bb #[.bool ng, .slice a3 q1 c3, .slice a4 q2 c4] 120 (bb + 1) #[.string ⟨#[]⟩, .string ⟨#[]⟩] 34 wx.drew) := Lib.hid (hF1.out.callB (bdrewN (Below.refl _ wx) 1))
  have y0 : wx.cell? ⟨bb, 0, none⟩ = some (.bool ng) := hF1.out.x.k.cell 0
  have y1 : wx.cell? ⟨bb, 1, none⟩ = some (.slice a3 q1 c3) := hF1.out.x.k.cell 1
  have y2 : wx.cell? ⟨bb, 2, none⟩ = some (.slice a4 q2 c4) := hF1.out.x.k.cell 2
  clear hF1
  go_region_held3 (fun w' => w'.cell? ⟨bb, 0, none⟩ = some (.bool ng) ∧ w'.cell? ⟨bb, 1, none⟩ = some (.slice a3 q1 c3) ∧ w'.cell? ⟨bb, 2, none⟩ = some (.slice a4 q2 c4)) (first | exact ⟨y0, y1, y2⟩ | exact ⟨by assumption, by assumption, by assumption⟩) (first
    | ((with_reducible refine (digits_S HP1 SN hq1 hl1 hs (by assumption)).mono ?_); rintro e w' ⟨rfl, hX⟩; have z0 : w'.cell? ⟨bb, 0, none⟩ = some (.bool ng) := hX.out.x.k.cell 0; have z1 : w'.cell? ⟨bb, 1, none⟩ = some (.slice a3 q1 c3) := hX.out.x.k.cell 1; have z2 : w'.cell? ⟨bb, 2, none⟩ = some (.slice a4 q2 c4) := hX.out.x.k.cell 2)
    | ((with_reducible refine (digits_S HP1 SD hq2 hl2 ht (by assumption)).mono ?_); rintro e w' ⟨rfl, hX⟩; have z0 : w'.cell? ⟨bb, 0, none⟩ = some (.bool ng) := hX.out.x.k.cell 0; have z1 : w'.cell? ⟨bb, 1, none⟩ = some (.slice a3 q1 c3) := hX.out.x.k.cell 1; have z2 : w'.cell? ⟨bb, 2, none⟩ = some (.slice a4 q2 c4) := hX.out.x.k.cell 2))
  rename World => W9
  have hF9 : Hid (Fr2 w φ φ1 bb #[.bool ng, .slice a3 q1 c3, .slice a4 q2 c4] 120 (bb + 1) #[.string ⟨#[]⟩, .string ⟨#[]⟩] 34 W9) := by assumption
  by_cases g1 : 2000 < s.size
  · have g1i : (2000 : Int) < (s.size : Int) := by omega
    have hq : Hid (S = ⟨#[]⟩ ∧ T = ⟨#[]⟩ ∧ F = 2) := Lib.hid (by
      have := hRR.out; rw [ratN, if_pos (.inl g1)] at this
      cases this; exact ⟨rfl, rfl, rfl⟩)
    clear g1
    have r0 : W9.cell? ⟨bb + 1, 0, none⟩ = some (.string ⟨#[]⟩) := hF9.out.r.k.cell 0
    have r1 : W9.cell? ⟨bb + 1, 1, none⟩ = some (.string ⟨#[]⟩) := hF9.out.r.k.cell 1
    have r2 := hF9.out.r.k.frz 0
    have r3 := hF9.out.r.k.frz 1
    have hZ := Lib.hid ((hF9.out.r.set 0 (.string ⟨#[]⟩)).set 1 (.string ⟨#[]⟩))
    go_wp2
    have e0 : _ = some (Value.string ⟨#[]⟩) := hZ.out.k.cell 0
    have e1 : _ = some (Value.string ⟨#[]⟩) := hZ.out.k.cell 1
    (try simp only [Exit.inBlock, Exit.then])
    refine bodyPost_ret (v := .tuple #[.agg #[.string ⟨#[]⟩, .string ⟨#[]⟩], .int .i64 2]) (by simp [results, Tryd.results79, go_sem, e0, e1]) rfl ?_
    exact ⟨by rw [hq.out.1, hq.out.2.1, hq.out.2.2], hZ.out.inv.bel⟩
  · have g1i : ¬ (2000 : Int) < (s.size : Int) := by omega
    by_cases g2 : 2000 < t.size
    · have g2i : (2000 : Int) < (t.size : Int) := by omega
      have hq : Hid (S = ⟨#[]⟩ ∧ T = ⟨#[]⟩ ∧ F = 2) := Lib.hid (by
        have := hRR.out; rw [ratN, if_pos (.inr g2)] at this
        cases this; exact ⟨rfl, rfl, rfl⟩)
      clear g1 g2
      have r0 : W9.cell? ⟨bb + 1, 0, none⟩ = some (.string ⟨#[]⟩) := hF9.out.r.k.cell 0
      have r1 : W9.cell? ⟨bb + 1, 1, none⟩ = some (.string ⟨#[]⟩) := hF9.out.r.k.cell 1
      have r2 := hF9.out.r.k.frz 0
      have r3 := hF9.out.r.k.frz 1
      have hZ := Lib.hid ((hF9.out.r.set 0 (.string ⟨#[]⟩)).set 1 (.string ⟨#[]⟩))
      go_wp2
      have e0 : _ = some (Value.string ⟨#[]⟩) := hZ.out.k.cell 0
      have e1 : _ = some (Value.string ⟨#[]⟩) := hZ.out.k.cell 1
      (try simp only [Exit.inBlock, Exit.then])
      refine bodyPost_ret (v := .tuple #[.agg #[.string ⟨#[]⟩, .string ⟨#[]⟩], .int .i64 2]) (by simp [results, Tryd.results79, go_sem, e0, e1]) rfl ?_
      exact ⟨by rw [hq.out.1, hq.out.2.1, hq.out.2.2], hZ.out.inv.bel⟩
    · have g2i : ¬ (2000 : Int) < (t.size : Int) := by omega
      have g3 : ¬ 9223372036854775807 < 1 + s.size := by omega
      have hq0 := hRR.out
      rw [ratN, if_neg (by omega)] at hq0
      clear g1 g2
      cases ng
      · have hq : Hid (S = s ∧ T = t ∧ F = 0) := Lib.hid (by
          rw [if_neg (by simp)] at hq0; cases hq0; exact ⟨rfl, rfl, rfl⟩)
        clear hq0
        have r0 : W9.cell? ⟨bb + 1, 0, none⟩ = some (.string ⟨#[]⟩) := hF9.out.r.k.cell 0
        have r1 : W9.cell? ⟨bb + 1, 1, none⟩ = some (.string ⟨#[]⟩) := hF9.out.r.k.cell 1
        have r2 := hF9.out.r.k.frz 0
        have r3 := hF9.out.r.k.frz 1
        have hZ := Lib.hid ((hF9.out.r.set 0 (.string s)).set 1 (.string t))
        go_wp2
        have e0 : _ = some (Value.string s) := hZ.out.k.cell 0
        have e1 : _ = some (Value.string t) := hZ.out.k.cell 1
        (try simp only [Exit.inBlock, Exit.then])
        refine bodyPost_ret (v := .tuple #[.agg #[.string s, .string t], .int .i64 0]) (by simp [results, Tryd.results79, go_sem, e0, e1]) rfl ?_
        exact ⟨by rw [hq.out.1, hq.out.2.1, hq.out.2.2], hZ.out.inv.bel⟩
      · have hq : Hid (S = (⟨#[45]⟩ ++ s) ∧ T = t ∧ F = 0) := Lib.hid (by
          rw [if_pos rfl] at hq0; cases hq0; exact ⟨rfl, rfl, rfl⟩)
        clear hq0
        have r0 : W9.cell? ⟨bb + 1, 0, none⟩ = some (.string ⟨#[]⟩) := hF9.out.r.k.cell 0
        have r1 : W9.cell? ⟨bb + 1, 1, none⟩ = some (.string ⟨#[]⟩) := hF9.out.r.k.cell 1
        have r2 := hF9.out.r.k.frz 0
        have r3 := hF9.out.r.k.frz 1
        have hZ := Lib.hid ((hF9.out.r.set 0 (.string (⟨#[45]⟩ ++ s))).set 1 (.string t))
        go_wp2
        have e0 : _ = some (Value.string (⟨#[45]⟩ ++ s)) := hZ.out.k.cell 0
        have e1 : _ = some (Value.string t) := hZ.out.k.cell 1
        (try simp only [Exit.inBlock, Exit.then])
        refine bodyPost_ret (v := .tuple #[.agg #[.string (⟨#[45]⟩ ++ s), .string t], .int .i64 0]) (by simp [results, Tryd.results79, go_sem, e0, e1]) rfl ?_
        exact ⟨by rw [hq.out.1, hq.out.2.1, hq.out.2.2], hZ.out.inv.bel⟩
end Go.Proofs.YtafcecgcmaoakaaDoor
