/- The walk of Recode. Conditions: none beyond what the claim form gives. -/
import Derived.Test.YthnmglckhfajeaaK12
namespace Go.Proofs.Ythnmglckhfajeaa
open Go.RowKit
set_option linter.unusedVariables false

/-- The title of a code. -/
def ttl (l : List Nod) (c : Int) : ByteArray := tit l (atV l c)
/-- The new code of a code; 0: there is none. -/
noncomputable def recC (l l2 : List Nod) (f : Int → Option Int) (c : Int) : Int :=
  match f c with
  | some t => t
  | none => if (ix l2 c).isSome = true then (if ttl l2 c = ttl l c then c else 0) else 0
noncomputable def recD (l l2 : List Nod) (f : Int → Option Int) (cs : List Cdg) : List Cdg := cs.filterMap fun x => if recC l l2 f x.2.2 = 0 then none else some (x.1, x.2.1, recC l l2 f x.2.2)
noncomputable def recL (l l2 : List Nod) (f : Int → Option Int) (cs : List Cdg) : List Cdg := cs.filter fun x => decide (recC l l2 f x.2.2 = 0)
noncomputable def recF (l l2 : List Nod) (ms : List Mov) (cs : List Cdg) : List Cdg × List Cdg × Int :=
  if treeF l ≠ 0 then ([], [], treeF l) else if treeF l2 ≠ 0 then ([], [], treeF l2) else if mvsF l l2 ms ≠ 0 then ([], [], mvsF l l2 ms) else if cdgF l cs ≠ 0 then ([], [], cdgF l cs)
  else (recD l l2 (mvK ms ms.length) cs, recL l l2 (mvK ms ms.length) cs, 0)
def SlPost2 {α β : Type} [Rep α] [Rep β] (r : List α × List β × Int) (φ : Phi) (w : World) (e : Ending) (w' : World) : Prop :=
  ∃ a1 c1 a2 c2 φ', e = .returned (.tuple #[.slice a1 r.1.length c1, .slice a2 r.2.1.length c2, .int .i64 r.2.2]) ∧ Inv w.heap.size w φ φ' w' ∧ SlV φ' a1 c1 r.1 ∧ SlV φ' a2 c2 r.2.1
theorem SlPost2.err {α β : Type} [Rep α] [Rep β] {r : List α × List β × Int} {φ : Phi} {w w' : World} {q : Int} (hr : r = ([], [], q)) (hφ : Fz φ w) (hb : Below w.heap.size w w') : SlPost2 r φ w (.returned (.tuple #[.slice none 0 0, .slice none 0 0, .int .i64 q])) w' :=
  ⟨none, 0, none, 0, φ, by rw [hr]; rfl, (Inv.start hφ).callB hb, by rw [hr]; exact SlV.empty _, by rw [hr]; exact SlV.empty _⟩
theorem rec_snoc (l l2 : List Nod) (f : Int → Option Int) (cs : List Cdg) (x : Cdg) : recD l l2 f (cs ++ [x]) = (if recC l l2 f x.2.2 = 0 then recD l l2 f cs else recD l l2 f cs ++ [(x.1, x.2.1, recC l l2 f x.2.2)]) ∧ recL l l2 f (cs ++ [x]) = (if recC l l2 f x.2.2 = 0 then recL l l2 f cs ++ [x] else recL l l2 f cs) := by
  unfold recD recL
  rw [List.filterMap_append, List.filter_append]
  by_cases h : recC l l2 f x.2.2 = 0 <;> simp [h]
theorem rec_len (l l2 : List Nod) (f : Int → Option Int) (cs : List Cdg) : (recD l l2 f cs).length ≤ cs.length ∧ (recL l l2 f cs).length ≤ cs.length := by
  unfold recD recL; exact ⟨List.length_filterMap_le _ _, List.length_filter_le _ _⟩
theorem has_q {w : World} {bt : Nat} {a : Option Addr} {c n m1 m2 : Nat} {f1 f2 : Int → Option Int} (h : TreeW w bt a c n m1 m2 f1 f2) (k : Int) {b : Bool} (hk : (f1 k).isSome = b) :
    Calls Try.prog 31 #[.pointer (some ⟨bt, 0, none⟩), .int .i64 k] w fun e w' => e = .returned (.bool b) ∧ w' = w := (has_b h k hk).mono fun _ _ h => ⟨h.1, h.2.symm⟩

set_option maxRecDepth 100000 in
set_option maxHeartbeats 2000000 in
theorem Recode_any {w : World} {a : Option Addr} {c n : Nat} {l : List Nod} {φ : Phi} (hφ : Fz φ w) (s : SlV φ a c l) (hn : Hid (l.length = n)) (hm : n ≤ 9223372036854775807) {a' : Option Addr} {c' n' : Nat} {l2 : List Nod} (s' : SlV φ a' c' l2) (hn' : Hid (l2.length = n')) (hm' : n' ≤ 9223372036854775807)
    {am : Option Addr} {cm nm : Nat} {ms : List Mov} (sm : SlV φ am cm ms) (hnm : Hid (ms.length = nm)) (hmm : nm ≤ 9223372036854775807) {ac : Option Addr} {cc nc : Nat} {cs : List Cdg} (sc : SlV φ ac cc cs) (hnc : Hid (cs.length = nc)) (hmc : nc ≤ 9223372036854775807) :
    Calls Try.prog 11 #[.slice a n c, .slice a' n' c', .slice am nm cm, .slice ac nc cc] w (SlPost2 (recF l l2 ms cs) φ w) := by
  go_enter Try.func11, Try.ntmps11
  go_wp2_with fail
  refine (treeOf_any hφ s hn hm).mono ?_
  rintro e w1 ⟨hb, ⟨h0, rfl⟩ | ⟨h0, hok, bt, m1, m2, rfl, ht⟩⟩
  · obtain ⟨q, hq⟩ : ∃ q, Hid (treeF l = q) := ⟨_, Lib.hid rfl⟩
    rw [hq.out] at h0 ⊢
    have hg : ((q : Int) != 0) = true := by simp [h0]
    have H0 := Lib.hid h0
    have HB := Lib.hid hb
    clear h0 hb
    go_wp2
    refine bodyPost_ret (v := .tuple #[.slice none 0 0, .slice none 0 0, .int .i64 q]) (by simp [results, Try.results11, go_sem]) rfl (SlPost2.err ?_ hφ HB.out)
    rw [recF, hq.out, if_pos H0.out]
  have H1 := Lib.hid h0
  have HB1 := Lib.hid hb
  have HO := Lib.hid hok
  have HT := Lib.hid ht
  clear h0 hb hok ht
  go_wp2_with fail
  refine (treeOf_any (hφ.below HB1.out) s' hn' hm').mono ?_
  rintro e w2 ⟨hb, ⟨h0, rfl⟩ | ⟨h0, hok, bt', m1', m2', rfl, ht⟩⟩
  · obtain ⟨q, hq⟩ : ∃ q, Hid (treeF l2 = q) := ⟨_, Lib.hid rfl⟩
    rw [hq.out] at h0 ⊢
    have hg : ((q : Int) != 0) = true := by simp [h0]
    have H0 := Lib.hid h0
    have HB := Lib.hid (HB1.out.trans (hb.mono HB1.out.size))
    clear h0 hb
    go_wp2
    refine bodyPost_ret (v := .tuple #[.slice none 0 0, .slice none 0 0, .int .i64 q]) (by simp [results, Try.results11, go_sem]) rfl (SlPost2.err ?_ hφ HB.out)
    rw [recF, H1.out, if_neg (by simp), hq.out, if_pos H0.out]
  have H2 := Lib.hid h0
  have HB2 := Lib.hid (HB1.out.trans (hb.mono HB1.out.size))
  have HO' := Lib.hid hok
  have HT' := Lib.hid ht
  have HT1 := Lib.hid (HT.out.callB hb)
  clear h0 hb hok ht HB1 HT
  go_wp2_with fail
  refine (movesOf_any HT1.out HT'.out (hφ.below HB2.out) sm hnm hmm).mono ?_
  rintro e w3 ⟨hb, ⟨h0, rfl⟩ | ⟨h0, rm, rfl, hmap⟩⟩
  · obtain ⟨q, hq⟩ : ∃ q, Hid (mvsF l l2 ms = q) := ⟨_, Lib.hid rfl⟩
    rw [hq.out] at h0 ⊢
    have hg : ((q : Int) != 0) = true := by simp [h0]
    have H0 := Lib.hid h0
    have HB := Lib.hid (HB2.out.trans (hb.mono HB2.out.size))
    clear h0 hb
    go_wp2
    refine bodyPost_ret (v := .tuple #[.slice none 0 0, .slice none 0 0, .int .i64 q]) (by simp [results, Try.results11, go_sem]) rfl (SlPost2.err ?_ hφ HB.out)
    rw [recF, H1.out, if_neg (by simp), H2.out, if_neg (by simp), hq.out, if_pos H0.out]
  have H3 := Lib.hid h0
  have HB3 := Lib.hid (HB2.out.trans (hb.mono HB2.out.size))
  have HM3 := Lib.hid hmap
  have HT3 := Lib.hid (HT1.out.callB hb)
  have HT3' := Lib.hid (HT'.out.callB hb)
  clear h0 hb hmap HB2 HT1 HT'
  go_wp2_with fail
  refine (codingsFault_any HT3.out (hφ.below HB3.out) sc hnc hmc).mono ?_
  rintro e w4 ⟨rfl, hb⟩
  obtain ⟨q, hq⟩ : ∃ q, Hid (cdgF l cs = q) := ⟨_, Lib.hid rfl⟩
  rw [hq.out]
  by_cases h0 : q = 0
  case neg =>
    have hg : ((q : Int) != 0) = true := by simp [h0]
    have H0 := Lib.hid h0
    have HB := Lib.hid (HB3.out.trans (hb.mono HB3.out.size))
    clear h0 hb
    go_wp2
    refine bodyPost_ret (v := .tuple #[.slice none 0 0, .slice none 0 0, .int .i64 q]) (by simp [results, Try.results11, go_sem]) rfl (SlPost2.err ?_ hφ HB.out)
    rw [recF, H1.out, if_neg (by simp), H2.out, if_neg (by simp), H3.out, if_neg (by simp), hq.out, if_pos H0.out]
  subst h0
  have HR : Hid (recF l l2 ms cs = (recD l l2 (mvK ms nm) cs, recL l l2 (mvK ms nm) cs, 0)) := Lib.hid (by rw [recF, H1.out, if_neg (by simp), H2.out, if_neg (by simp), H3.out, if_neg (by simp), hq.out, if_neg (by simp), hnm.out])
  have hfr : frcF l cs = 0 := by rw [frcF, H1.out, if_neg (by simp), hq.out]
  obtain ⟨hn2, _, hix⟩ := cdg_ok hnc hfr
  have HIX := Lib.hid hix
  have HB4 := Lib.hid (HB3.out.trans (hb.mono HB3.out.size))
  have HM4 := Lib.hid (HM3.out.callB hb)
  have HT4 := Lib.hid (HT3.out.callB hb)
  have HT4' := Lib.hid (HT3'.out.callB hb)
  clear hb HB3 HM3 HT3 HT3' hix hfr hq
  have hF4 := Lib.hid (hφ.below HB4.out)
  have hSt : Hid (Ow2 w4 φ 32 32 none 0 (recD l l2 (mvK ms nm) (cs.take 0)) none 0 (recL l l2 (mvK ms nm) (cs.take 0)) w4) := Lib.hid ⟨Inv.start hF4.out, Own.nil _ _ _ _, Own.nil _ _ _ _, fun _ _ h => by cases h⟩
  go_wp2
  go_loopw [16, 17, 56] (fun o1 o2 i wr => ∃ (k : Nat) (a1 a2 : Option Addr) (c1 c2 : Nat) (xs ys : List Cdg), k ≤ nc ∧ i = .int .i64 k ∧ o1 = .slice a1 xs.length c1 ∧ o2 = .slice a2 ys.length c2 ∧ Hid (recD l l2 (mvK ms nm) (cs.take k) = xs) ∧ Hid (recL l l2 (mvK ms nm) (cs.take k) = ys) ∧ Hid (Ow2 w4 φ 32 32 a1 c1 xs a2 c2 ys wr)) (fun _ _ i _ => nc - (intOf i).toNat)
  case atStart => exact ⟨0, none, none, 0, 0, [], [], Nat.zero_le _, rfl, rfl, rfl, Lib.hid rfl, Lib.hid rfl, hSt⟩
  case round =>
    clear hSt
    obtain ⟨k, a1, a2, c1, c2, xs, ys, hk, rfl, rfl, rfl, hxs, hys, hSt⟩ := hrel
    by_cases hlt : k < nc
    · obtain ⟨b, off, rfl, f⟩ := sc.cdgD hnc hlt
      obtain ⟨hb, d1, d2, d3⟩ := f k hlt wr hSt.out.inv.fz
      have hix := Lib.hid (HIX.out k hlt)
      have hcn := Lib.hid (code_lv HO.out hix.out).2
      have hxl : xs.length ≤ 20000 := by rw [← hxs.out]; have := (rec_len l l2 (mvK ms nm) (cs.take k)).1; rw [List.length_take] at this; omega
      have hyl : ys.length ≤ 20000 := by rw [← hys.out]; have := (rec_len l l2 (mvK ms nm) (cs.take k)).2; rw [List.length_take] at this; omega
      have hsn : Hid (_ ∧ _) := Lib.hid (rec_snoc l l2 (mvK ms nm) (cs.take k) (cs.getD k cdg0))
      rw [← take_snocD cdg0 cs k nc hnc.out hlt, hxs.out, hys.out] at hsn
      clear f
      have hpr : Hid (cs.getD k cdg0 = ((cs.getD k cdg0).1, (cs.getD k cdg0).2.1, (cs.getD k cdg0).2.2)) := Lib.hid rfl
      generalize hgx : (cs.getD k cdg0) = X at *
      obtain ⟨x1, x2, x3⟩ := X
      replace hgx := Lib.hid hgx
      dsimp only at d1 d2 d3
      replace hcn : Hid (x3 ≠ 0) := hcn
      replace hix : Hid ((ix l x3).isSome = true) := hix
      have hbB : w4.heap.size ≤ wr.heap.size := hSt.out.inv.size
      have ha1 : Hid (∀ x, a1 = some x → x.block < wr.heap.size) := Lib.hid (fun x hx => (hSt.out.o1.lt x hx).2)
      have ha2 : Hid (∀ x, a2 = some x → x.block < wr.heap.size) := Lib.hid (fun x hx => (hSt.out.o2.lt x hx).2)
      have hφn : Hid (φ wr.heap.size = none) := Lib.hid (by
        cases h : φ wr.heap.size with
        | none => rfl
        | some o => have := hSt.out.inv.fz.mlt h; omega)
      have hB0 := Lib.hid (Blk.new wr #[.int .i64 x1, .int .i64 x2, .int .i64 x3] 32)
      have hSx := Lib.hid (hSt.out.alloc (.cells #[.int .i64 x1, .int .i64 x2, .int .i64 x3] 32))
      have T1 := Lib.hid (HT4.out.callB hSx.out.inv.bel)
      have T2 := Lib.hid (fun q => (HT4'.out.callB hSx.out.inv.bel).callB (bdrewN (Below.refl _ _) q))
      have hlk := ((HM4.out.callB hSx.out.inv.bel).look_ok x3)
      clear hSt
      obtain ⟨v, hv⟩ : ∃ v, Hid (mvK ms nm x3 = v) := ⟨_, Lib.hid rfl⟩
      rw [hv.out] at hlk
      cases v with
      | some t =>
        have hcv : Hid (recC l l2 (mvK ms nm) x3 = t) := Lib.hid (by unfold recC; rw [hv.out])
        simp only [Option.getD_some, Option.isSome_some] at hlk
        go_wp2
        clear hlk d1 d2 d3 hb
        generalize wr.alloc (.cells #[.int .i64 x1, .int .i64 x2, .int .i64 x3] 32) = wx at *
        generalize wr.heap.size = bx at *
        have b0 : wx.cell? ⟨bx, 0, none⟩ = some (.int .i64 x1) := hB0.out.cell 0
        have b1 : wx.cell? ⟨bx, 1, none⟩ = some (.int .i64 x2) := hB0.out.cell 1
        have b2 : wx.cell? ⟨bx, 2, none⟩ = some (.int .i64 x3) := hB0.out.cell 2
        have f2 := hB0.out.frz 2
        go_quiet (fail)
        by_cases ht0 : t = 0
        · subst ht0
          have hS2 := hSx.out.drewN nq
          have hin := hS2.inv
          have hon := hS2.o2
          have HS2 := Lib.hid hS2
          clear hS2
          go_wp2_with (at_builtin; refine wpList_app1F (α := Cdg) rfl _ _ 27 rfl slC hin a2 c2 _ hon _ _ (x1, x2, x3) ⟨[.int .i64 x1], [.int .i64 x2, .int .i64 x3], rfl, rfl, [.int .i64 x2], [.int .i64 x3], rfl, rfl, rfl⟩ rfl 1 rfl (by omega) ?_; intro a3 c3 w5 hi5 ho5 hg5 hf5)
          have hS5 := Lib.hid ((HS2.out.alloc _).swap.step1 hi5 ho5 hg5 hf5).swap
          clear hi5 ho5 hg5 hf5 hin hon
          go_roundw
          case rel => exact ⟨k + 1, a1, a3, c1, c3, xs, ys ++ [(x1, x2, x3)], by omega, by go_num, rfl, by simp, Lib.hid (by rw [hsn.out.1, if_pos (by rw [hcv.out]; )]), Lib.hid (by rw [hsn.out.2, if_pos (by rw [hcv.out]; )]), hS5⟩
          case measure => simp [intOf]; omega
        · have hg : ((t : Int) == 0) = false := by simp [ht0]
          have HT0 := Lib.hid ht0
          clear ht0
          have hS2 := Lib.hid ((hSx.out.drewN nq).set (off := 2) hbB hφn.out (fun x hx => by have := (ha1.out x hx); omega) (fun x hx => by have := (ha2.out x hx); omega) (.int .i64 t))
          have HSZ : Hid (((wx.drewN nq).setCell ⟨bx, 2, none⟩ (.int .i64 t)).heap.size = wx.heap.size) := Lib.hid (by simp [World.setCell])
          have hin := hS2.out.inv
          have hon := hS2.out.o1
          go_wp2_with (at_builtin; go_loud (refine wpList_app1F (α := Cdg) rfl _ _ 27 rfl slC hin a1 c1 _ hon _ _ (x1, x2, t) ⟨[.int .i64 x1], [.int .i64 x2, .int .i64 t], rfl, rfl, [.int .i64 x2], [.int .i64 t], rfl, rfl, rfl⟩ rfl 1 (by rw [HSZ.out]; rfl) (by omega) ?_); intro a3 c3 w5 hi5 ho5 hg5 hf5)
          have hS5 := Lib.hid ((hS2.out.alloc _).step1 hi5 ho5 hg5 hf5)
          clear hi5 ho5 hg5 hf5 hin hon
          go_roundw
          case rel => exact ⟨k + 1, a3, a2, c3, c2, xs ++ [(x1, x2, t)], ys, by omega, by go_num, by simp, rfl, Lib.hid (by rw [hsn.out.1, if_neg (by rw [hcv.out]; exact HT0.out), hcv.out]), Lib.hid (by rw [hsn.out.2, if_neg (by rw [hcv.out]; exact HT0.out)]), hS5⟩
          case measure => simp [intOf]; omega
      | none =>
        simp only [Option.getD_none, Option.isSome_none] at hlk
        go_wp2
        clear hlk d1 d2 d3 hb
        generalize wr.alloc (.cells #[.int .i64 x1, .int .i64 x2, .int .i64 x3] 32) = wx at *
        generalize wr.heap.size = bx at *
        have b0 : wx.cell? ⟨bx, 0, none⟩ = some (.int .i64 x1) := hB0.out.cell 0
        have b1 : wx.cell? ⟨bx, 1, none⟩ = some (.int .i64 x2) := hB0.out.cell 1
        have b2 : wx.cell? ⟨bx, 2, none⟩ = some (.int .i64 x3) := hB0.out.cell 2
        have f2 := hB0.out.frz 2
        obtain ⟨s2, hs2⟩ : ∃ s2, Hid ((atF l2 x3).isSome = s2) := ⟨_, Lib.hid rfl⟩
        cases s2
        · have hcv : Hid (recC l l2 (mvK ms nm) x3 = 0) := Lib.hid (by unfold recC; rw [hv.out]; rw [atF_isSome] at hs2; simp [hs2.out])
          go_quiet ((go_at_call 31; exact Calls.quiet_of_same (has_q (T2.out _) _ hs2.out)))
          have hS2 := hSx.out.drewN nq
          have hin := hS2.inv
          have hon := hS2.o2
          have HS2 := Lib.hid hS2
          clear hS2
          go_wp2_with (at_builtin; refine wpList_app1F (α := Cdg) rfl _ _ 27 rfl slC hin a2 c2 _ hon _ _ (x1, x2, x3) ⟨[.int .i64 x1], [.int .i64 x2, .int .i64 x3], rfl, rfl, [.int .i64 x2], [.int .i64 x3], rfl, rfl, rfl⟩ rfl 1 rfl (by omega) ?_; intro a3 c3 w5 hi5 ho5 hg5 hf5)
          have hS5 := Lib.hid ((HS2.out.alloc _).swap.step1 hi5 ho5 hg5 hf5).swap
          clear hi5 ho5 hg5 hf5 hin hon
          go_roundw
          case rel => exact ⟨k + 1, a1, a3, c1, c3, xs, ys ++ [(x1, x2, x3)], by omega, by go_num, rfl, by simp, Lib.hid (by rw [hsn.out.1, if_pos (by rw [hcv.out]; )]), Lib.hid (by rw [hsn.out.2, if_pos (by rw [hcv.out]; )]), hS5⟩
          case measure => simp [intOf]; omega
        · have q0 := T1.out.blk.cell 0
          have q1 := T1.out.blk.cell 1
          have q0' := (T2.out 0).blk.cell 0
          have q1' := (T2.out 0).blk.cell 1
          simp at q0 q1
          replace q0' : wx.cell? ⟨bt', 0, none⟩ = some (.slice a' n' c') := q0'
          replace q1' : wx.cell? ⟨bt', 1, none⟩ = some (.map (some m1')) := q1'
          obtain ⟨i1, hi1, hi1e, hi1a, _⟩ := HO.out.up hix.out
          obtain ⟨i2, hi2, hi2e, hi2a, _⟩ := HO'.out.up (by rw [← atF_isSome]; exact hs2.out)
          obtain ⟨bb, off1, rfl, f⟩ := s.nodesD hn hi1
          obtain ⟨bb2, off2, rfl, f'⟩ := s'.nodesD hn' hi2
          obtain ⟨g1, _, _, g4⟩ := f i1 hi1 wx hSx.out.inv.fz
          obtain ⟨g1', _, _, g4'⟩ := f' i2 hi2 wx hSx.out.inv.fz
          have t1 : Hid (ttl l x3 = (l.getD i1 nod0).2.2) := Lib.hid (by unfold ttl; rw [hi1a])
          have t2 : Hid (ttl l2 x3 = (l2.getD i2 nod0).2.2) := Lib.hid (by unfold ttl; rw [hi2a])
          have k1 : Hid (atF l x3 = some (i1 : Int)) := Lib.hid (by have := HO.out.ix_of hi1; rw [hi1e] at this; exact atF_some this)
          have k2 : Hid (atF l2 x3 = some (i2 : Int)) := Lib.hid (by have := HO'.out.ix_of hi2; rw [hi2e] at this; exact atF_some this)
          have HA : ∀ q, (Instr.lookup 64 (.map (some m1)) (.int .i64 x3) false).run Try.prog (wx.drewN q) = .ok (.int .i64 (i1 : Int)) (wx.drewN q) := fun q => by
            have := (T1.out.at_.drewN q).look_no x3; rw [k1.out] at this; exact this
          have HA' : ∀ q, (Instr.lookup 64 (.map (some m1')) (.int .i64 x3) false).run Try.prog (wx.drewN q) = .ok (.int .i64 (i2 : Int)) (wx.drewN q) := fun q => by
            have := (T2.out q).at_.look_no x3; rw [k2.out] at this; exact this
          have z1 : (i1 : Int) < n := by omega
          have z2 : (i2 : Int) < n' := by omega
          generalize (l.getD i1 nod0).2.2 = ti1 at *
          generalize (l2.getD i2 nod0).2.2 = ti2 at *
          clear f f' hi1a hi2a
          have HI := Lib.hid (And.intro hi1e hi2e)
          clear hi1e hi2e
          by_cases hte : ti2 = ti1
          · have hte1 := str_eq_t hte
            have hcv : Hid (recC l l2 (mvK ms nm) x3 = x3) := Lib.hid (by unfold recC; rw [hv.out]; dsimp only; rw [if_pos (by rw [← atF_isSome]; exact hs2.out), if_pos (by rw [t1.out, t2.out]; exact hte)])
            have HTE := Lib.hid hte
            clear hte
            go_quiet ((go_at_call 31; exact Calls.quiet_of_same (has_q (T2.out _) _ hs2.out)))
            have hg : ((x3 : Int) == 0) = false := by simp [hcn.out]
            clear HA HA'
            have hS2 := Lib.hid ((hSx.out.drewN nq).set (off := 2) hbB hφn.out (fun x hx => by have := (ha1.out x hx); omega) (fun x hx => by have := (ha2.out x hx); omega) (.int .i64 x3))
            have HSZ : Hid (((wx.drewN nq).setCell ⟨bx, 2, none⟩ (.int .i64 x3)).heap.size = wx.heap.size) := Lib.hid (by simp [World.setCell])
            have hin := hS2.out.inv
            have hon := hS2.out.o1
            go_wp2_with (at_builtin; go_loud (refine wpList_app1F (α := Cdg) rfl _ _ 27 rfl slC hin a1 c1 _ hon _ _ (x1, x2, x3) ⟨[.int .i64 x1], [.int .i64 x2, .int .i64 x3], rfl, rfl, [.int .i64 x2], [.int .i64 x3], rfl, rfl, rfl⟩ rfl 1 (by rw [HSZ.out]; rfl) (by omega) ?_); intro a3 c3 w5 hi5 ho5 hg5 hf5)
            have hS5 := Lib.hid ((hS2.out.alloc _).step1 hi5 ho5 hg5 hf5)
            clear hi5 ho5 hg5 hf5 hin hon
            go_roundw
            case rel => exact ⟨k + 1, a3, a2, c3, c2, xs ++ [(x1, x2, x3)], ys, by omega, by go_num, by simp, rfl, Lib.hid (by rw [hsn.out.1, if_neg (by rw [hcv.out]; exact hcn.out), hcv.out]), Lib.hid (by rw [hsn.out.2, if_neg (by rw [hcv.out]; exact hcn.out)]), hS5⟩
            case measure => simp [intOf]; omega
          · have hte1 := str_eq_f hte
            have hcv : Hid (recC l l2 (mvK ms nm) x3 = 0) := Lib.hid (by unfold recC; rw [hv.out]; dsimp only; rw [if_pos (by rw [← atF_isSome]; exact hs2.out), if_neg (by rw [t1.out, t2.out]; exact hte)])
            have HTE := Lib.hid hte
            clear hte
            go_quiet ((go_at_call 31; exact Calls.quiet_of_same (has_q (T2.out _) _ hs2.out)))
            clear HA HA'
            have hS2 := hSx.out.drewN nq
            have hin := hS2.inv
            have hon := hS2.o2
            have HS2 := Lib.hid hS2
            clear hS2
            go_wp2_with (at_builtin; refine wpList_app1F (α := Cdg) rfl _ _ 27 rfl slC hin a2 c2 _ hon _ _ (x1, x2, x3) ⟨[.int .i64 x1], [.int .i64 x2, .int .i64 x3], rfl, rfl, [.int .i64 x2], [.int .i64 x3], rfl, rfl, rfl⟩ rfl 1 rfl (by omega) ?_; intro a3 c3 w5 hi5 ho5 hg5 hf5)
            have hS5 := Lib.hid ((HS2.out.alloc _).swap.step1 hi5 ho5 hg5 hf5).swap
            clear hi5 ho5 hg5 hf5 hin hon
            go_roundw
            case rel => exact ⟨k + 1, a1, a3, c1, c3, xs, ys ++ [(x1, x2, x3)], by omega, by go_num, rfl, by simp, Lib.hid (by rw [hsn.out.1, if_pos (by rw [hcv.out]; )]), Lib.hid (by rw [hsn.out.2, if_pos (by rw [hcv.out]; )]), hS5⟩
            case measure => simp [intOf]; omega
    · obtain rfl : k = nc := by omega
      go_wp2
      obtain ⟨φ', hle, hi, hs1, hs2⟩ := hSt.out.release
      have ex : cs.take k = cs := by rw [← hnc.out, List.take_length]
      rw [ex] at hxs hys
      refine bodyPost_ret (v := .tuple #[.slice a1 xs.length c1, .slice a2 ys.length c2, .int .i64 0]) (by simp [results, Try.results11, go_sem]) rfl ⟨a1, c1, a2, c2, φ', by rw [HR.out, hxs.out, hys.out], ((Inv.start hφ).callB HB4.out).call hi, by rw [HR.out, hxs.out]; exact hs1, by rw [HR.out, hys.out]; exact hs2⟩
end Go.Proofs.Ythnmglckhfajeaa
