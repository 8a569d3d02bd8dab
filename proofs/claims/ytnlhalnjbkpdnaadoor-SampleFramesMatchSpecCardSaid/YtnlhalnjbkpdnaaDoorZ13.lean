/- The walks of CheckFrame and Strata, the program's side, of slices.Equal at strata, and of the law SampleFramesMatchSpec. Conditions: the library's table of blanks reads as it was laid; those that the claim form gives. -/
import Derived.Test.YtnlhalnjbkpdnaaDoorZ12
import Derived.Test.YtnlhalnjbkpdnaaDoorZ8
import Derived.Laws.StructEq
namespace Go.Proofs.YtnlhalnjbkpdnaaDoor
open Go.RowKit Go.Sort
set_option linter.unusedVariables false
set_option linter.unusedSimpArgs false
theorem lyr_snd (l : List Unt) : (lyrR l).2 = frmU l := by
  unfold lyrR
  split
  · rfl
  · next h => exact (Classical.byContradiction h).symm
theorem lyr_len (l : List Unt) : (lyrR l).1.length ≤ 40 := by
  unfold lyrR
  split
  · simp
  · next h => rw [List.length_map]; exact (frm_ok (Classical.byContradiction h)).2.1
theorem PCheckFrame_any {w : World} {a : Option Addr} {c n : Nat} {l : List Unt} {φ : Phi} (hφ : Fz φ w) (s : SlV φ a c l) (hn : Hid (l.length = n)) (hm : n ≤ 9223372036854775807) (hs : Hid (∀ u ∈ l, u.2.1.size ≤ reachBytes)) :
    Calls Tryd.prog 6 #[.slice a n c] w (fun e w' => e = .returned (.int .i64 (frmU l)) ∧ Below w.heap.size w w') := by
  have HF := Lib.hid hφ
  go_enter Tryd.func6, Tryd.ntmps6
  go_wp2_with (go_at_call 9; (with_reducible refine (layersOf_any HF.out s hn hm hs).mono ?_); rintro e w1 ⟨a1, c1, φ1, rfl, hi1, s1⟩; rw [lyr_snd])
  go_ret
  exact ⟨rfl, hi1.bel⟩
def lyr0 : Lyr := (ByteArray.empty, [], 0, [])
theorem SlV.lyrD {φ : Phi} {a : Option Addr} {cap : Nat} {xs : List Lyr} (h : SlV φ a cap xs) {k n : Nat} (hn : Hid (xs.length = n)) (hk : k < n) :
    ∃ b off, a = some ⟨b, off, none⟩ ∧ ∀ k, k < n → ∃ (a1 : Option Addr) (c1 : Nat) (a2 : Option Addr) (c2 : Nat), ∀ w, Fz φ w → b < w.heap.size ∧ w.cell? ⟨b, off + k * 4, none⟩ = some (.string (xs.getD k lyr0).1) ∧ w.cell? ⟨b, off + k * 4 + 1, none⟩ = some (.slice a1 (xs.getD k lyr0).2.1.length c1) ∧ w.cell? ⟨b, off + k * 4 + 2, none⟩ = some (.int .i64 (xs.getD k lyr0).2.2.1) ∧ w.cell? ⟨b, off + k * 4 + 3, none⟩ = some (.slice a2 (xs.getD k lyr0).2.2.2.length c2) := by
  obtain ⟨b, off, ha, hc⟩ := h.cellsD lyr0 hn hk
  refine ⟨b, off, ha, fun k hk => ?_⟩
  obtain ⟨cs, ⟨c, d, rfl, h1, x2, d2, rfl, ⟨a1, c1, rfl, h2⟩, x3, d3, rfl, h3, ⟨a2, c2, rfl, h4⟩⟩, hj⟩ := hc k hk
  cases h1; cases h3
  have j0 := hj 0 (by simp)
  have j1 := hj 1 (by simp)
  have j2 := hj 2 (by simp)
  have j3 := hj 3 (by simp)
  simp [Rep.size] at j0 j1 j2 j3
  exact ⟨a1, c1, a2, c2, fun w hw => ⟨hw.lt j0, hw.cell j0, hw.cell j1, hw.cell j2, hw.cell j3⟩⟩
set_option maxRecDepth 100000 in
set_option maxHeartbeats 4000000 in
theorem PStrata_any {w : World} {a : Option Addr} {c n : Nat} {l : List Unt} {φ : Phi} (hφ : Fz φ w) (s : SlV φ a c l) (hn : Hid (l.length = n)) (hm : n ≤ 9223372036854775807) (hs : Hid (∀ u ∈ l, u.2.1.size ≤ reachBytes)) :
    Calls Tryd.prog 4 #[.slice a n c] w (SlPost (stmR l) φ w) := by
  have HF := Lib.hid hφ
  obtain ⟨q, hq⟩ : ∃ q, Hid (frmU l = q) := ⟨_, Lib.hid rfl⟩
  by_cases h0 : q = 0
  case neg =>
    have hg : ((q : Int) != 0) = true := by simp [h0]
    have hR : Hid (stmR l = ([], q)) := Lib.hid (by unfold stmR; rw [hq.out, if_pos h0])
    clear h0
    go_enter Tryd.func4, Tryd.ntmps4
    go_wp2_with (go_at_call 9; (with_reducible refine (layersOf_any HF.out s hn hm hs).mono ?_); rintro e w1 ⟨a1, c1, φ1, rfl, hi1, s1⟩; rw [lyr_snd, hq.out]; have HB := Lib.hid hi1.bel; clear hi1 s1)
    go_ret2
    exact ⟨none, 0, φ, by rw [hR.out]; rfl, (Inv.start HF.out).callB HB.out, by rw [hR.out]; exact SlV.empty _⟩
  subst h0
  have hR : Hid (stmR l = ((nmsL l).map (stmF l), 0)) := Lib.hid (by unfold stmR; rw [hq.out, if_neg (by simp)])
  have hL : Hid (lyrR l = ((nmsL l).map (lyrF l), 0)) := Lib.hid (by unfold lyrR; rw [hq.out, if_neg (by simp)])
  obtain ⟨ls, hls⟩ : ∃ ls, Hid ((nmsL l).map (lyrF l) = ls) := ⟨_, Lib.hid rfl⟩
  obtain ⟨m, hml⟩ : ∃ m, Hid (ls.length = m) := ⟨_, Lib.hid rfl⟩
  have hm40 : m ≤ 40 := by have := lyr_len l; rw [hL.out, hls.out, hml.out] at this; exact this
  have hst : Hid ((nmsL l).map (stmF l) = ls.map (fun y => ((y.1, (y.2.1.length : Int), (y.2.2.2.length : Int), y.2.2.1) : Stm))) := Lib.hid (by
    rw [← hls.out, List.map_map]
    refine List.map_congr_left (fun z _ => ?_)
    unfold stmF lyrF
    simp)
  rw [hls.out] at hL
  go_enter Tryd.func4, Tryd.ntmps4
  go_wp2_with (go_at_call 9; (with_reducible refine (layersOf_any HF.out s hn hm hs).mono ?_); rw [hL.out]; rintro e w1 ⟨a1, c1, φ1, rfl, hi1, s1⟩; dsimp only at s1 ⊢; rw [hml.out]; have I1 := Lib.hid hi1; have S1 := Lib.hid s1)
  have hS0 : Hid (OwSt w1 φ1 30 none 0 ([] : List Stm) w1) := Lib.hid ⟨Inv.start I1.out.fz, Own.nil _ _ _ _⟩
  clear hi1
  go_loopw [6, 19] (fun o i wr => ∃ (k : Nat) (ao : Option Addr) (co : Nat) (xs : List Stm), k ≤ m ∧ i = .int .i64 k ∧ o = .slice ao xs.length co ∧ Hid ((ls.take k).map (fun y => ((y.1, (y.2.1.length : Int), (y.2.2.2.length : Int), y.2.2.1) : Stm)) = xs) ∧ Hid (OwSt w1 φ1 30 ao co xs wr)) (fun _ i _ => m - (intOf i).toNat)
  case atStart => exact ⟨0, none, 0, [], Nat.zero_le _, rfl, rfl, Lib.hid rfl, hS0⟩
  case round =>
    clear hS0
    obtain ⟨k, ao, co, xs, hk, rfl, rfl, hxs, hS⟩ := hrel
    have hxl : xs.length ≤ 40 := by rw [← hxs.out, List.length_map, List.length_take]; omega
    by_cases hlt : k < m
    · obtain ⟨b, off, rfl, f⟩ := s1.lyrD hml hlt
      obtain ⟨a2, c2, a3, c3, f⟩ := f k hlt
      obtain ⟨hb, d1, d2, d3, d4⟩ := f wr hS.out.inv.fz
      have htk := Lib.hid (take_snocD lyr0 ls k m hml.out hlt)
      have hnx : Hid ((ls.take (k + 1)).map (fun y => ((y.1, (y.2.1.length : Int), (y.2.2.2.length : Int), y.2.2.1) : Stm)) = xs ++ [(((ls.getD k lyr0).1, ((ls.getD k lyr0).2.1.length : Int), ((ls.getD k lyr0).2.2.2.length : Int), (ls.getD k lyr0).2.2.1) : Stm)]) := Lib.hid (by rw [htk.out, List.map_append, hxs.out]; rfl)
      clear f htk
      generalize (ls.getD k lyr0).1 = z at *
      generalize (ls.getD k lyr0).2.1.length = nu at *
      generalize (ls.getD k lyr0).2.2.2.length = nc at *
      generalize (ls.getD k lyr0).2.2.1 = sz at *
      have hS2 := Lib.hid (OwSt.alloc hS.out (.cells #[.string z, .slice a2 nu c2, .int .i64 sz, .slice a3 nc c3] 37))
      have hK := Lib.hid (Blk.new wr #[.string z, .slice a2 nu c2, .int .i64 sz, .slice a3 nc c3] 37)
      go_upto_region 8 with (fail)
      clear d1 d2 d3 d4 hb hS
      generalize wr.alloc (.cells #[.string z, .slice a2 nu c2, .int .i64 sz, .slice a3 nc c3] 37) = wj at *
      generalize wr.heap.size = bj at *
      have y0 : wj.cell? ⟨bj, 0, none⟩ = some (.string z) := hK.out.cell 0
      have y1 : wj.cell? ⟨bj, 1, none⟩ = some (.slice a2 nu c2) := hK.out.cell 1
      have y2 : wj.cell? ⟨bj, 2, none⟩ = some (.int .i64 sz) := hK.out.cell 2
      have y3 : wj.cell? ⟨bj, 3, none⟩ = some (.slice a3 nc c3) := hK.out.cell 3
      have HRP := Lib.hid (fun φ => rep_stm φ (z, (nu : Int), (nc : Int), sz))
      have hin := hS2.out.inv
      have hon := hS2.out.own
      go_wp2_with (at_builtin; refine wpList_app1 (α := Stm) rfl _ _ 23 rfl slSm hin ao co _ hon _ _ (z, (nu : Int), (nc : Int), sz) (HRP.out _) rfl 1 rfl (by omega) ?_; intro a7 c7 w7 hi7 ho7 hg7)
      have hS7 : Hid (OwSt w1 φ1 30 a7 c7 (xs ++ [(z, (nu : Int), (nc : Int), sz)]) w7) := Lib.hid ⟨hi7, ho7⟩
      clear hi7 ho7 hg7 hin hon
      go_roundw
      case rel => exact ⟨k + 1, a7, c7, xs ++ [(z, (nu : Int), (nc : Int), sz)], by omega, by go_num, by simp, hnx, hS7⟩
      case measure => (simp [intOf] <;> omega)
    · obtain rfl : m = k := by omega
      have ex : ls.take m = ls := by rw [← hml.out, List.take_length]
      rw [ex] at hxs
      go_wp2
      go_ret2
      obtain ⟨φ', hle, hi, hsl, _⟩ := hS.out.own.release hS.out.inv
      exact ⟨ao, co, φ', by rw [hR.out, hst.out, hxs.out]; rfl, I1.out.call hi, by rw [hR.out, hst.out, hxs.out]; exact hsl⟩
def stm0 : Stm := (ByteArray.empty, 0, 0, 0)
theorem SlV.stmD {φ : Phi} {a : Option Addr} {cap : Nat} {xs : List Stm} (h : SlV φ a cap xs) {k n : Nat} (hn : Hid (xs.length = n)) (hk : k < n) :
    ∃ b off, a = some ⟨b, off, none⟩ ∧ ∀ k, k < n → ∀ w, Fz φ w → b < w.heap.size ∧ w.cell? ⟨b, off + k * 4, none⟩ = some (.string (xs.getD k stm0).1) ∧ w.cell? ⟨b, off + k * 4 + 1, none⟩ = some (.int .i64 (xs.getD k stm0).2.1) ∧ w.cell? ⟨b, off + k * 4 + 2, none⟩ = some (.int .i64 (xs.getD k stm0).2.2.1) ∧ w.cell? ⟨b, off + k * 4 + 3, none⟩ = some (.int .i64 (xs.getD k stm0).2.2.2) := by
  obtain ⟨b, off, ha, hc⟩ := h.cellsD stm0 hn hk
  refine ⟨b, off, ha, fun k hk w hw => ?_⟩
  obtain ⟨cs, ⟨c, d, rfl, h1, c2, d2, rfl, h2, c3, d3, rfl, h3, h4⟩, hj⟩ := hc k hk
  cases h1; cases h2; cases h3; cases h4
  have j0 := hj 0 (by simp)
  have j1 := hj 1 (by simp)
  have j2 := hj 2 (by simp)
  have j3 := hj 3 (by simp)
  simp [Rep.size] at j0 j1 j2 j3
  exact ⟨hw.lt j0, hw.cell j0, hw.cell j1, hw.cell j2, hw.cell j3⟩
theorem neqSm (w : World) (s : ByteArray) (x y z : Int) : (binOp .neq 30 (.agg #[.string s, .int .i64 x, .int .i64 y, .int .i64 z]) (.agg #[.string s, .int .i64 x, .int .i64 y, .int .i64 z])).run Tryd.prog w = .ok (.bool false) w := by
  have hu := Tryd.underlying30
  rw [run_neq_struct, run_equalIn_agg w 9999 _ _ _ (by simp only [Program.fieldsOf, hu]) (by kernel_rfl)]
  simp only [Program.fieldsOf, hu]
  have hi := Tryd.underlying9
  have hj := Tryd.underlying3
  simp [Op.eqFields, part, Program.cellsOf, run_equalIn_string w _ 9 _ _ hi, run_equalIn_int w _ 3 _ _ _ _ hj, Result.andThen]
set_option maxHeartbeats 1000000 in
theorem EqualSm (n : Nat) (a : Option Addr) (cap : Nat) (xs : List Stm) (a2 : Option Addr) (cap2 : Nat) (w : World) (φ : Phi) (hφ : Fz φ w) (hs : SlV φ a cap xs) (hs2 : SlV φ a2 cap2 xs) (h1 : Hid (xs.length = n)) (hl : n ≤ 9223372036854775807) :
    Calls Tryd.prog 8 #[.slice a n cap, .slice a2 n cap2] w fun e w' => e = .returned (.bool true) ∧ Below w.heap.size w w' := by
  have h0 : ((n : Int) != n) = false := by simp
  go_enter Tryd.func8, Tryd.ntmps8
  go_wp2
  clear h0
  go_loopw [13] (fun i wr => ∃ k : Nat, k ≤ n ∧ i = .int .i64 k ∧ Below w.heap.size w wr) (fun i _ => n - (intOf i).toNat)
  case atStart => exact ⟨0, Nat.zero_le _, rfl, Below.refl _ _⟩
  case round =>
    obtain ⟨k, hk, rfl, hb⟩ := hrel
    have hf := hφ.below hb
    by_cases hlt : k < n
    · obtain ⟨b, off, rfl, hc⟩ := hs.stmD h1 hlt
      obtain ⟨b2, off2, rfl, hc2⟩ := hs2.stmD h1 hlt
      obtain ⟨c1, c2, c3, c4, c5⟩ := hc k hlt wr hf
      obtain ⟨d1, d2, d3, d4, d5⟩ := hc2 k hlt wr hf
      have hi1 : (k : Int) < n := by omega
      generalize xs.getD k stm0 = X at *
      clear hc hc2
      obtain ⟨x1, x2, x3, x4⟩ := X
      dsimp only at c2 c3 c4 c5 d2 d3 d4 d5
      have hgd : Tryd.prog.eqGuardType Tryd.prog.depth 30 = false := by kernel_rfl
      have hneq := fun w => neqSm w x1 x2 x3 x4
      go_wp2_with fail
      go_quiet (fail)
      go_wp2
      go_roundw
      case rel => exact ⟨k + 1, by omega, by go_num, bdrewN hb _⟩
      case measure => (simp [intOf] <;> omega)
    · obtain rfl : k = n := by omega
      go_wp2
      go_ret
      exact ⟨rfl, hb⟩
set_option maxHeartbeats 2000000 in
theorem frames_core {w : World} {a : Option Addr} {c n : Nat} {l : List Unt} {φ : Phi} (hφ : Fz φ w) (ht : TabP φ) (s : SlV φ a c l) (hn : Hid (l.length = n)) (hm : n ≤ 9223372036854775807) (hs : Hid (∀ u ∈ l, u.2.1.size ≤ reachBytes)) :
    Calls Tryd.prog 3 #[.slice a n c] w fun e w' => e = .returned (.bool true) ∧ Below w.heap.size w w' := by
  have HF := Lib.hid hφ
  have HT := Lib.hid ht
  have SS := Lib.hid s
  obtain ⟨K, hX⟩ : ∃ K, Hid (stmR l = K) := ⟨_, Lib.hid rfl⟩
  obtain ⟨xs, q⟩ := K
  obtain ⟨nx, hnx⟩ : ∃ nx, Hid (xs.length = nx) := ⟨_, Lib.hid rfl⟩
  obtain ⟨p, hp⟩ : ∃ p, Hid (frmU l = p) := ⟨_, Lib.hid rfl⟩
  have hf : ((p : Int) == p) = true := by simp
  have hf2 : ((q : Int) == q) = true := by simp
  clear hφ ht s
  go_enter Tryd.func3, Tryd.ntmps3
  go_wp2_with fail
  refine (PStrata_any HF.out SS.out hn hm hs).mono ?_
  rw [hX.out]
  rintro e w1 ⟨a1, c1, φ1, rfl, hi1, s1⟩
  dsimp only at s1 ⊢
  rw [hnx.out]
  have I1 := Lib.hid hi1
  have S1 := Lib.hid s1
  clear hi1 s1
  go_wp2_with fail
  refine (RStrata_any I1.out.fz (HT.out.mono I1.out.le) (SS.out.mono I1.out.le) hn hm hs).mono ?_
  rw [hX.out]
  rintro e w2 ⟨a2, c2, φ2, rfl, hi2, s2⟩
  dsimp only at s2 ⊢
  rw [hnx.out]
  have I2 := Lib.hid (I1.out.call hi2)
  have S2 := Lib.hid s2
  have S12 := Lib.hid (S1.out.mono hi2.le)
  have hnl : nx ≤ 9223372036854775807 := by
    have h3 := S2.out.capn
    have h4 := S2.out.capm
    rw [hnx.out] at h3
    unfold maxLen at h4
    omega
  clear hi2 s2
  go_wp2_with (first
    | (go_at_call 6; (with_reducible refine (PCheckFrame_any I2.out.fz (SS.out.mono I2.out.le) hn hm hs).mono ?_); rintro e w3 ⟨rfl, hb3⟩; rw [hp.out]; have I3 := Lib.hid (I2.out.callB hb3); clear hb3)
    | (go_at_call 7; (with_reducible refine (RCheckFrame_any I3.out.fz (HT.out.mono I3.out.le) (SS.out.mono I3.out.le) hn hm hs).mono ?_); rintro e w4 ⟨rfl, hb4⟩; rw [hp.out]; have I4 := Lib.hid (I3.out.callB hb4); clear hb4)
    | (go_at_call 8; (with_reducible refine (EqualSm nx a1 c1 xs a2 c2 _ φ2 I4.out.fz S12.out S2.out hnx hnl).mono ?_); rintro e w5 ⟨rfl, hb5⟩; have B5 := Lib.hid (I4.out.bel.trans (hb5.mono I4.out.size)); clear hb5)
    | fail)
  go_ret
  exact ⟨rfl, B5.out⟩
theorem rUns (H : Type) (enc : TypeId × Value → H) (W : World) : Reads enc Tryd.prog W 22 (List Unt) (fun xs => xs.length * Tryd.prog.bytesOf 45 ≤ reachBytes ∧ ∀ x ∈ xs, IsI64 x.1 ∧ StrG x.2.1 ∧ IsI64 x.2.2.1 ∧ IsI64 x.2.2.2) :=
  Reads.slice Tryd.underlying22 (by kernel_rfl) (by decide) (Reads.struct4 (s1 := 1) (s2 := 1) (s3 := 1) (s4 := 1) Tryd.underlying45 (by kernel_rfl) (by kernel_rfl) (by kernel_rfl) (by kernel_rfl) (by kernel_rfl) (by kernel_rfl) (by kernel_rfl) (by kernel_rfl) (by kernel_rfl) (rInt H enc W) (rStr H enc W) (rInt H enc W) (rInt H enc W))
theorem uns_len {l : List Unt} (h : l.length * Tryd.prog.bytesOf 45 ≤ reachBytes) : l.length ≤ 9223372036854775807 := by
  have hb : Tryd.prog.bytesOf 45 = 40 := by kernel_rfl
  rw [hb] at h; unfold reachBytes at h; omega
theorem sampleFramesMatchSpec_walk (w : World) (φ : Phi) (hφ : Fz φ w) (ht : TabP φ) (ad : Option Addr) (cp : Nat) (l : List Unt) (s : SlV φ ad cp l) (g : l.length * Tryd.prog.bytesOf 45 ≤ reachBytes ∧ ∀ x ∈ l, IsI64 x.1 ∧ StrG x.2.1 ∧ IsI64 x.2.2.1 ∧ IsI64 x.2.2.2) :
    Calls Tryd.prog 3 #[.slice ad l.length cp] w fun e w' => e = .returned (.bool true) ∧ Below w.heap.size w w' :=
  frames_core hφ ht s (Lib.hid rfl) (uns_len g.1) (Lib.hid (fun u hu => (g.2 u hu).2.1))
end Go.Proofs.YtnlhalnjbkpdnaaDoor
