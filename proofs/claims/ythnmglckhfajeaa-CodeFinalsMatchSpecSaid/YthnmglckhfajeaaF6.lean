/- The walk of the reference's final. Conditions: the frame is right and the codings are of it. -/
import Derived.Test.YthnmglckhfajeaaF5
namespace Go.Proofs.Ythnmglckhfajeaa
open Go.RowKit
set_option linter.unusedVariables false

theorem witL_cov {l : List Nod} {n : Nat} (hn : l.length = n) (c : Int) : (witL l c n).length = covN l c := by
  unfold witL covN; rw [List.length_map, ← hn, List.take_length]
/-- What holds while the nodes are gone through. -/
def Go3 (l : List Nod) (g : List Cdg) (n k : Nat) (least : Nat) (code way : Int) : Prop :=
  (∀ i, i < k → ¬ majO g (cod l i)) ∧ ((code = 0 ∧ way = 4 ∧ least = n + 1 ∧ ∀ i, i < k → ¬ majA l g (cod l i)) ∨ (majA l g code ∧ way = 3 ∧ least = covN l code ∧ ∀ i, i < k → majA l g (cod l i) → covN l code ≤ covN l (cod l i)))
section
variable {l : List Nod} {g : List Cdg} {n k least : Nat} {code way : Int}
theorem cov_le (l : List Nod) (c : Int) : covN l c ≤ l.length := List.length_filter_le _ _
theorem Go3_hit (hn : l.length = n) (h : Go3 l g n k least code way) (h1 : ¬ majO g (cod l k)) (h2 : majA l g (cod l k)) (h3 : covN l (cod l k) < least) : Go3 l g n (k + 1) (covN l (cod l k)) (cod l k) 3 := by
  refine ⟨fun i hi => ?_, .inr ⟨h2, rfl, rfl, fun i hi hm => ?_⟩⟩
  · by_cases e : i = k
    · subst e; exact h1
    · exact h.1 i (by omega)
  · by_cases e : i = k
    · subst e; exact Nat.le_refl _
    · rcases h.2 with ⟨_, _, _, q⟩ | ⟨_, _, q1, q2⟩
      · exact absurd hm (q i (by omega))
      · have := q2 i (by omega) hm; omega
theorem Go3_miss (hn : l.length = n) (h : Go3 l g n k least code way) (h1 : ¬ majO g (cod l k)) (h2 : ¬ (majA l g (cod l k) ∧ covN l (cod l k) < least)) : Go3 l g n (k + 1) least code way := by
  refine ⟨fun i hi => ?_, ?_⟩
  · by_cases e : i = k
    · subst e; exact h1
    · exact h.1 i (by omega)
  · rcases h.2 with ⟨q1, q2, q3, q4⟩ | ⟨q1, q2, q3, q4⟩
    · refine .inl ⟨q1, q2, q3, fun i hi hm => ?_⟩
      by_cases e : i = k
      · subst e; have := cov_le l (cod l i); exact h2 ⟨hm, by omega⟩
      · exact q4 i (by omega) hm
    · refine .inr ⟨q1, q2, q3, fun i hi hm => ?_⟩
      by_cases e : i = k
      · subst e; exact Nat.not_lt.1 (fun hl => h2 ⟨hm, by omega⟩)
      · exact q4 i (by omega) hm
theorem Go3_end (ht : TrOk l n) (hv : ∀ x ∈ g, (ix l x.2.2).isSome = true) (h : Go3 l g n n least code way) : finF l g = ((g.getD 0 cdg0).1, code, way) := by
  have hno : ∀ c, ¬ majO g c := fun c hc => by
    obtain ⟨x, hx, he⟩ := cnt_mem (g := g) (c := c) (by unfold majO at hc; omega)
    obtain ⟨i, hi, hie, _⟩ := ht.up (hv x hx)
    exact h.1 i hi (by rw [hie, he]; exact hc)
  refine finF_eq ht hv ⟨rfl, .inr ?_⟩
  rcases h.2 with ⟨q1, q2, q3, q4⟩ | ⟨q1, q2, q3, q4⟩
  · refine .inr ⟨hno, fun c hc => ?_, q1, q2⟩
    obtain ⟨i, hi, hie, _⟩ := ht.up (majA_vld ht hv (c := c) (by unfold majA at hc; omega))
    exact q4 i hi (by rw [hie]; exact hc)
  · refine .inl ⟨hno, q1, fun c hc => ?_, q2⟩
    have hcv := majA_vld ht hv (c := c) (by unfold majA at hc; omega)
    have hdv := majA_vld ht hv (c := code) (by unfold majA at q1; omega)
    obtain ⟨i, hi, hie, _⟩ := ht.up hcv
    refine Nat.not_lt.1 (fun hl => ?_)
    have h1 := q4 i hi (by rw [hie]; exact hc)
    rw [hie] at h1
    have h2 := cov_lt ht hdv hcv (majA_up ht hv hc q1 (by show lvl l code ≤ lvl l c; exact Nat.le_of_lt hl)) hl
    omega
end
theorem treeF_of {l : List Nod} {n : Nat} (h : TrOk l n) : treeF l = 0 := by
  have hn := h.len
  refine treeF_0 (n := n) ?_ hn (fun i hi => ?_) (fun i hi => ?_) (fun i hi => ?_)
  · refine nodesF_ok (n := n) (Lib.hid hn) h.pos.1 h.pos.2 (Lib.hid fun i hi => ?_)
    unfold nodeBad
    rw [if_neg (by rw [show outB (l.getD i nod0).1 1 999 = false from outB_false.2 (h.rng i hi)]; simp), if_neg (fun q => by have := h.inc i q.1 hi; have := q.2; unfold cod at *; omega), if_neg (by have := (h.tit i hi).1; unfold tit at this; omega), if_neg (by rw [show titleB (l.getD i nod0).2.2 = true from (h.tit i hi).2]; simp)]
  · unfold par5
    rw [if_neg]
    rintro ⟨q1, q2⟩
    have := h.par i hi q1
    rw [q2] at this; cases this
  · obtain ⟨m, hm, _⟩ := h.lev i hi
    unfold cyc18
    rw [hn, hm]; simp
  · obtain ⟨m, hm, h8⟩ := h.lev i hi
    unfold deep2
    rw [lvl_of (by rw [hn]; exact hm), if_neg (by omega)]
theorem coded_one {l : List Nod} {m : Int} (h0 : treeF l = 0) (hv : (ix l m).isSome = true) : codedF l [m] = 0 := by
  unfold codedF
  rw [if_neg (by simp [h0])]
  simp [scan, miss5, hv]
structure RfSt (w0 : World) (b4 b5 : Nat) (cs5 : Array Value) (wr : World) : Prop where
  bel : Below w0.heap.size w0 wr
  q4 : Blk wr b4 #[.int .i64 0, .int .i64 0, .int .i64 0] 42
  q5 : Blk wr b5 cs5 42
  lo : w0.heap.size ≤ b4 ∧ w0.heap.size ≤ b5
  ne : b4 ≠ b5
section
variable {w0 wr w' : World} {b4 b5 : Nat} {cs5 : Array Value}
theorem RfSt.callB (h : RfSt w0 b4 b5 cs5 wr) (hb : Below wr.heap.size wr w') : RfSt w0 b4 b5 cs5 w' := ⟨h.bel.trans (hb.mono h.bel.size), h.q4.callB hb, h.q5.callB hb, h.lo, h.ne⟩
theorem RfSt.alloc (h : RfSt w0 b4 b5 cs5 wr) (o : Obj) : RfSt w0 b4 b5 cs5 (wr.alloc o) := h.callB ((Below.refl _ _).alloc (Nat.le_refl _) o)
theorem RfSt.set (h : RfSt w0 b4 b5 cs5 wr) (off : Nat) (u : Value) : RfSt w0 b4 b5 (cs5.setIfInBounds off u) (wr.setCell ⟨b5, off, none⟩ u) :=
  ⟨Below_grown h.bel (grown_set _ _ _ _) h.lo.2, Blk.grown h.q4 (grown_set _ _ _ _) h.ne, h.q5.set off u, h.lo, h.ne⟩
end
set_option maxRecDepth 100000 in
set_option maxHeartbeats 4000000 in
theorem Rfinal_any {w : World} {a : Option Addr} {c n : Nat} {l : List Nod} {φ : Phi} (hφ : Fz φ w) (s : SlV φ a c l) (hok : Hid (TrOk l n)) {ag : Option Addr} {cg ng : Nat} {g : List Cdg} (sg : SlV φ ag cg g) (hng : Hid (g.length = ng)) (hn0 : 0 < ng) (hn2 : ng ≤ 20000) (hv : Hid (∀ x ∈ g, (ix l x.2.2).isSome = true)) :
    Calls Try.prog 35 #[.slice a n c, .slice ag ng cg] w (FinalPost l g w) := by
  have hn : Hid (l.length = n) := Lib.hid hok.out.len
  have hn6 : n ≤ 600 := hok.out.pos.2
  have ht0 : Hid (treeF l = 0) := Lib.hid (treeF_of hok.out)
  obtain ⟨b, off, rfl, f⟩ := sg.cdgD hng hn0
  have d1 : Hid (∀ W, Fz φ W → W.cell? ⟨b, off, none⟩ = some (.int .i64 (g.getD 0 cdg0).1)) := Lib.hid (fun W hW => by have := (f 0 hn0 W hW).2.1; simpa using this)
  have hd1 := d1.out (w.alloc (.cells #[.int .i64 0, .int .i64 0, .int .i64 0] 42)) (hφ.alloc _)
  have hb := (f 0 hn0 w hφ).1
  clear f
  generalize hcs : (g.getD 0 cdg0).1 = cs at *
  replace hcs := Lib.hid hcs
  go_enter Try.func35, Try.ntmps35
  go_wp2
  clear hd1
  have hSt : Hid (RfSt w w.heap.size (w.heap.size + 1) #[.int .i64 cs, .int .i64 0, .int .i64 4] ((w.alloc (.cells #[.int .i64 0, .int .i64 0, .int .i64 0] 42)).alloc (.cells #[.int .i64 cs, .int .i64 0, .int .i64 4] 42))) := Lib.hid (by
    have ba := (Below.refl w.heap.size w).alloc (Nat.le_refl _) (.cells #[.int .i64 0, .int .i64 0, .int .i64 0] 42)
    have b0 := Blk.new w #[.int .i64 0, .int .i64 0, .int .i64 0] 42
    have e1 : (w.alloc (.cells #[.int .i64 0, .int .i64 0, .int .i64 0] 42)).heap.size = w.heap.size + 1 := by simp
    generalize w.alloc (.cells #[.int .i64 0, .int .i64 0, .int .i64 0] 42) = wa at *
    have b1 := Blk.new wa #[.int .i64 cs, .int .i64 0, .int .i64 4] 42
    rw [e1] at b1
    exact ⟨ba.alloc (by omega) _, b0.alloc _, b1, by omega, by omega⟩)
  generalize (w.alloc (.cells #[.int .i64 0, .int .i64 0, .int .i64 0] 42)).alloc (.cells #[.int .i64 cs, .int .i64 0, .int .i64 4] 42) = wg at *
  generalize w.heap.size + 1 = b5 at *
  generalize hb4 : w.heap.size = b4 at *
  replace hb4 := Lib.hid hb4
  go_loopw [6, 26] (fun ls i wr => ∃ (k least : Nat) (code way : Int), k ≤ n ∧ least ≤ 601 ∧ i = .int .i64 k ∧ ls = .int .i64 (least : Int) ∧ Hid (Go3 l g n k least code way) ∧ Hid (RfSt w b4 b5 #[.int .i64 cs, .int .i64 code, .int .i64 way] wr)) (fun _ i _ => n - (intOf i).toNat)
  case atStart => exact ⟨0, n + 1, 0, 4, Nat.zero_le _, by omega, rfl, by go_num, Lib.hid ⟨fun i hi => by omega, .inl ⟨rfl, rfl, rfl, fun i hi => by omega⟩⟩, hSt⟩
  case round =>
    clear hSt
    obtain ⟨k, least, code, way, hk, hls, rfl, rfl, hgo, hSt⟩ := hrel
    by_cases hlt : k < n
    · obtain ⟨bn, offn, rfl, f⟩ := s.nodesD hn hlt
      obtain ⟨hbn, c1, c2, c3⟩ := f k hlt wr (hφ.below hSt.out.bel)
      have hme : Hid (cod l k = (l.getD k nod0).1) := Lib.hid rfl
      have hvl : Hid ((ix l (l.getD k nod0).1).isSome = true) := Lib.hid (by have := hok.out.ix_of hlt; rw [show (l.getD k nod0).1 = cod l k from rfl, this]; rfl)
      clear f
      generalize hmm : (l.getD k nod0).1 = m at *
      clear hmm
      generalize (l.getD k nod0).2.1 = pa at *
      generalize (l.getD k nod0).2.2 = ti at *
      have hS1 := Lib.hid (hSt.out.alloc (.cells #[.int .i64 m, .int .i64 pa, .string ti] 68))
      have hB8 := Lib.hid (Blk.new wr #[.int .i64 m, .int .i64 pa, .string ti] 68)
      clear hSt
      go_wp2
      clear c1 c2 c3 hbn
      generalize wr.alloc (.cells #[.int .i64 m, .int .i64 pa, .string ti] 68) = wo at *
      generalize wr.heap.size = b8 at *
      go_loopw [9, 10, 32] (fun ow be i wi => ∃ j : Nat, j ≤ ng ∧ i = .int .i64 j ∧ ow = .int .i64 (cntO (g.take j) m : Int) ∧ be = .int .i64 (cntA l (g.take j) m : Int) ∧ Hid (RfSt w b4 b5 #[.int .i64 cs, .int .i64 code, .int .i64 way] wi) ∧ Hid (Blk wi b8 #[.int .i64 m, .int .i64 pa, .string ti] 68)) (fun _ _ i _ => ng - (intOf i).toNat)
      case atStart => exact ⟨0, Nat.zero_le _, rfl, rfl, rfl, hS1, hB8⟩
      case round =>
        clear hS1 hB8
        rename World => wi
        obtain ⟨j, hj, rfl, rfl, rfl, hSi, hBi⟩ := hrel
        by_cases hjl : j < ng
        · obtain ⟨b', off', hab, f⟩ := sg.cdgD hng hjl
          cases hab
          obtain ⟨hb', y1, y2, y3⟩ := f j hjl wi (hφ.below hSi.out.bel)
          have htk := Lib.hid (take_snocD cdg0 g j ng hng.out hjl)
          have hvx := Lib.hid (hv.out _ (take_getD g cdg0 j (by rw [hng.out]; exact hjl)))
          have ho := Lib.hid (cntO_snoc (g.take j) (g.getD j cdg0) m)
          have ha := Lib.hid (cntA_snoc l (g.take j) (g.getD j cdg0) m)
          rw [← htk.out] at ho ha
          have hob : cntO (g.take j) m ≤ 20000 := by have := cntO_le (g.take j) m; rw [List.length_take] at this; omega
          have hab : cntA l (g.take j) m ≤ 20000 := by have := cntA_le l (g.take j) m; rw [List.length_take] at this; omega
          clear f htk
          generalize g.getD j cdg0 = X at *
          obtain ⟨x1, x2, x3⟩ := X
          dsimp only at y1 y2 y3
          replace hvx : Hid ((ix l x3).isSome = true) := hvx
          replace ho : Hid (cntO (g.take (j + 1)) m = cntO (g.take j) m + if x3 = m then 1 else 0) := ho
          replace ha : Hid (cntA l (g.take (j + 1)) m = cntA l (g.take j) m + if m ∈ upL l x3 then 1 else 0) := ha
          generalize cntO (g.take j) m = co at *
          generalize cntA l (g.take j) m = ca at *
          have hSi2 := Lib.hid (hSi.out.alloc (.cells #[.int .i64 x1, .int .i64 x2, .int .i64 x3] 32))
          have hBi2 := Lib.hid (hBi.out.alloc (.cells #[.int .i64 x1, .int .i64 x2, .int .i64 x3] 32))
          have hul := (upL_len hok.out (.inr hvx.out))
          obtain ⟨nu, hnu⟩ : ∃ nu, Hid ((upL l x3).length = nu) := ⟨_, Lib.hid rfl⟩
          rw [hnu.out] at hul
          clear hSi hBi
          go_wp2_with fail
          refine (lineage_any (hφ.below hSi2.out.bel) s hok x3 hvx.out).mono ?_
          rintro e w2 ⟨au, cu, φ2, rfl, hi2, su⟩
          rw [hnu.out]
          have hS3 := Lib.hid (hSi2.out.callB hi2.bel)
          have hB3 := Lib.hid (hBi2.out.callB hi2.bel)
          have hF2 := Lib.hid hi2.fz
          have z2 : w2.cell? ⟨wi.heap.size, 2, none⟩ = some (.int .i64 x3) := (hi2.bel.cell (p := ⟨wi.heap.size, 2, none⟩) (by simp)).trans (box_at 2)
          have z8 : w2.cell? ⟨b8, 0, none⟩ = some (.int .i64 m) := hB3.out.cell 0
          clear hi2 hSi2 hBi2 y1 y2 y3 hb'
          obtain ⟨bb, hbb⟩ : ∃ bb, Hid (decide (m ∈ upL l x3) = bb) := ⟨_, Lib.hid rfl⟩
          by_cases he : x3 = m
          · have hg : ((x3 : Int) == m) = true := by simp [he]
            have HE := Lib.hid he
            clear he
            go_wp2_with fail
            refine (Contains_b nu au cu _ m _ _ hF2.out su hnu (by omega) hbb.out).mono ?_
            rintro e w' ⟨rfl, rfl⟩
            cases bb
            all_goals
              go_wp2
              go_roundw
              case rel => exact ⟨j + 1, by omega, by go_num, by rw [ho.out, if_pos HE.out]; go_num, by rw [ha.out]; first | (rw [if_pos (by simpa using hbb.out)]; go_num) | (rw [if_neg (by simpa using hbb.out)]; go_num), hS3, hB3⟩
              case measure => simp [intOf]; omega
          · have hg : ((x3 : Int) == m) = false := by simp [he]
            have HE := Lib.hid he
            clear he
            go_wp2_with fail
            refine (Contains_b nu au cu _ m _ _ hF2.out su hnu (by omega) hbb.out).mono ?_
            rintro e w' ⟨rfl, rfl⟩
            cases bb
            all_goals
              go_wp2
              go_roundw
              case rel => exact ⟨j + 1, by omega, by go_num, by rw [ho.out, if_neg HE.out]; go_num, by rw [ha.out]; first | (rw [if_pos (by simpa using hbb.out)]; go_num) | (rw [if_neg (by simpa using hbb.out)]; go_num), hS3, hB3⟩
              case measure => simp [intOf]; omega
        · obtain rfl : j = ng := by omega
          rename Nat => ng
          have ex : g.take ng = g := by rw [← hng.out, List.take_length]
          rw [ex]
          clear ex hj hjl
          have z8 : wi.cell? ⟨b8, 0, none⟩ = some (.int .i64 m) := hBi.out.cell 0
          have hob := cntO_le g m
          have hab := cntA_le l g m
          rw [hng.out] at hob hab
          have hmo : Hid (majO g (cod l k) ↔ ng < 2 * cntO g m) := Lib.hid (by unfold majO; rw [hng.out, hme.out])
          have hma : Hid (majA l g (cod l k) ↔ ng < 2 * cntA l g m) := Lib.hid (by unfold majA; rw [hng.out, hme.out])
          have hfw : Hid (witF l m = (witL l m n, 0)) := Lib.hid (by rw [witF, if_neg (by rw [coded_one ht0.out hvl.out]; simp), hn.out])
          have hcl : Hid ((witL l m n).length = covN l m) := Lib.hid (witL_cov hn.out m)
          have hcn := cov_le l m
          rw [hn.out] at hcn
          have hcv : Hid (covN l (cod l k) = covN l m) := Lib.hid (by rw [hme.out])
          have hfin1 : Hid (majO g (cod l k) → finF l g = (cs, m, if cntO g m = ng then 1 else 2)) := Lib.hid (fun h => by
            rw [hme.out] at h
            have := finF_eq hok.out hv.out (r := (cs, m, if cntO g m = ng then 1 else 2)) ⟨hcs.out.symm, .inl ⟨h, by rw [hng.out]⟩⟩
            exact this)
          generalize hco : cntO g m = co at *
          generalize hca : cntA l g m = ca at *
          replace hco := Lib.hid hco
          replace hca := Lib.hid hca
          go_wp2_with fail
          refine (Within_any (hφ.below hSi.out.bel) s hn (by omega) m).mono ?_
          rintro e w2 ⟨av, cv, φ2, rfl, hi2, su⟩
          rw [hfw.out] at su ⊢
          dsimp only at su ⊢
          rw [hcl.out]
          have hS3 := Lib.hid (hSi.out.callB hi2.bel)
          have hB3 := Lib.hid (hBi.out.callB hi2.bel)
          have y8 : w2.cell? ⟨b8, 0, none⟩ = some (.int .i64 m) := hB3.out.cell 0
          have y5 : w2.cell? ⟨b5, 0, none⟩ = some (.int .i64 cs) := hS3.out.q5.cell 0
          have y51 : w2.cell? ⟨b5, 1, none⟩ = some (.int .i64 code) := hS3.out.q5.cell 1
          have y52 : w2.cell? ⟨b5, 2, none⟩ = some (.int .i64 way) := hS3.out.q5.cell 2
          have f51 := hS3.out.q5.frz 1
          have f52 := hS3.out.q5.frz 2
          clear hi2 su z8 hSi hBi
          have v0 : w2.cell? ⟨b4, 0, none⟩ = some (.int .i64 0) := hS3.out.q4.cell 0
          have v1 : w2.cell? ⟨b4, 1, none⟩ = some (.int .i64 0) := hS3.out.q4.cell 1
          have v2 : w2.cell? ⟨b4, 2, none⟩ = some (.int .i64 0) := hS3.out.q4.cell 2
          have u0 := hS3.out.q4.frz 0
          have u1 := hS3.out.q4.frz 1
          have u2 := hS3.out.q4.frz 2
          generalize hcv0 : covN l m = cov at *
          replace hcv0 := Lib.hid hcv0
          by_cases h1 : co = ng
          · have hq : ((co : Int) == ng) = true := by simp [h1]
            have hend : Hid (finF l g = (cs, m, 1)) := Lib.hid (by have := hfin1.out (hmo.out.2 (by omega)); rwa [if_pos h1] at this)
            go_wp2
            have hB : Blk (((w2.setCell ⟨b4, 0, none⟩ (.int .i64 cs)).setCell ⟨b4, 1, none⟩ (.int .i64 m)).setCell ⟨b4, 2, none⟩ (.int .i64 1)) b4 #[.int .i64 cs, .int .i64 m, .int .i64 1] 42 := by
              have := ((hS3.out.q4.set 0 (.int .i64 cs)).set 1 (.int .i64 m)).set 2 (.int .i64 1)
              simpa using this
            have hbl : Hid (Below w.heap.size w (((w2.setCell ⟨b4, 0, none⟩ (.int .i64 cs)).setCell ⟨b4, 1, none⟩ (.int .i64 m)).setCell ⟨b4, 2, none⟩ (.int .i64 1))) := Lib.hid (Below_grown (Below_grown (Below_grown hS3.out.bel (grown_set _ _ _ _) hS3.out.lo.1) (grown_set _ _ _ _) hS3.out.lo.1) (grown_set _ _ _ _) hS3.out.lo.1)
            have e0 := hB.cell 0
            have e1 := hB.cell 1
            have e2 := hB.cell 2
            clear y8 y5 y51 y52 f51 f52 v0 v1 v2 u0 u1 u2 hB
            generalize ((w2.setCell ⟨b4, 0, none⟩ (.int .i64 cs)).setCell ⟨b4, 1, none⟩ (.int .i64 m)).setCell ⟨b4, 2, none⟩ (.int .i64 1) = wz at *
            replace e0 : wz.cell? ⟨b4, 0, none⟩ = some (.int .i64 cs) := e0
            replace e1 : wz.cell? ⟨b4, 1, none⟩ = some (.int .i64 m) := e1
            replace e2 : wz.cell? ⟨b4, 2, none⟩ = some (.int .i64 1) := e2
            exact bodyPost_ret (v := .agg #[.int .i64 cs, .int .i64 m, .int .i64 1]) (by simp [results, Try.results35, go_sem, e0, e1, e2]) rfl ⟨(cs, m, 1), hend.out, rfl, hbl.out⟩
          have hq : ((co : Int) == ng) = false := by simp; omega
          by_cases h2 : ng < 2 * co
          · have hd : decide (2 * (co : Int) > ng) = true := decide_eq_true (by omega)
            have hend : Hid (finF l g = (cs, m, 2)) := Lib.hid (by have := hfin1.out (hmo.out.2 h2); rwa [if_neg h1] at this)
            go_wp2
            have hB : Blk (((w2.setCell ⟨b4, 0, none⟩ (.int .i64 cs)).setCell ⟨b4, 1, none⟩ (.int .i64 m)).setCell ⟨b4, 2, none⟩ (.int .i64 2)) b4 #[.int .i64 cs, .int .i64 m, .int .i64 2] 42 := by
              have := ((hS3.out.q4.set 0 (.int .i64 cs)).set 1 (.int .i64 m)).set 2 (.int .i64 2)
              simpa using this
            have hbl : Hid (Below w.heap.size w (((w2.setCell ⟨b4, 0, none⟩ (.int .i64 cs)).setCell ⟨b4, 1, none⟩ (.int .i64 m)).setCell ⟨b4, 2, none⟩ (.int .i64 2))) := Lib.hid (Below_grown (Below_grown (Below_grown hS3.out.bel (grown_set _ _ _ _) hS3.out.lo.1) (grown_set _ _ _ _) hS3.out.lo.1) (grown_set _ _ _ _) hS3.out.lo.1)
            have e0 := hB.cell 0
            have e1 := hB.cell 1
            have e2 := hB.cell 2
            clear y8 y5 y51 y52 f51 f52 v0 v1 v2 u0 u1 u2 hB
            generalize ((w2.setCell ⟨b4, 0, none⟩ (.int .i64 cs)).setCell ⟨b4, 1, none⟩ (.int .i64 m)).setCell ⟨b4, 2, none⟩ (.int .i64 2) = wz at *
            replace e0 : wz.cell? ⟨b4, 0, none⟩ = some (.int .i64 cs) := e0
            replace e1 : wz.cell? ⟨b4, 1, none⟩ = some (.int .i64 m) := e1
            replace e2 : wz.cell? ⟨b4, 2, none⟩ = some (.int .i64 2) := e2
            exact bodyPost_ret (v := .agg #[.int .i64 cs, .int .i64 m, .int .i64 2]) (by simp [results, Try.results35, go_sem, e0, e1, e2]) rfl ⟨(cs, m, 2), hend.out, rfl, hbl.out⟩
          have hno : Hid (¬ majO g (cod l k)) := Lib.hid (fun h => h2 (hmo.out.1 h))
          by_cases h3 : ng < 2 * ca ∧ cov < least
          · obtain ⟨h3, h4⟩ := h3
            have hnew := Lib.hid (Go3_hit hn.out hgo.out hno.out (hma.out.2 h3) (by rw [hcv.out]; exact h4))
            rw [hcv.out, hme.out] at hnew
            go_wp2
            have hR3 := Lib.hid ((hS3.out.set 1 (.int .i64 m)).set 2 (.int .i64 3))
            go_roundw
            case rel => exact ⟨k + 1, cov, m, 3, by omega, by omega, by go_num, rfl, hnew, hR3⟩
            case measure => simp [intOf]; omega
          · have hnew := Lib.hid (Go3_miss hn.out hgo.out hno.out (fun h => h3 ⟨hma.out.1 h.1, by have := h.2; rw [hcv.out] at this; exact this⟩))
            by_cases h4 : ng < 2 * ca
            · have h5 : ¬ cov < least := fun h => h3 ⟨h4, h⟩
              clear h3
              go_wp2
              go_roundw
              case rel => exact ⟨k + 1, least, code, way, by omega, hls, by go_num, rfl, hnew, hS3⟩
              case measure => simp [intOf]; omega
            · clear h3
              go_wp2
              go_roundw
              case rel => exact ⟨k + 1, least, code, way, by omega, hls, by go_num, rfl, hnew, hS3⟩
              case measure => simp [intOf]; omega
    · obtain rfl : k = n := by omega
      have hend := Lib.hid (Go3_end hok.out hv.out hgo.out)
      rw [hcs.out] at hend
      have y5 : wr.cell? ⟨b5, 0, none⟩ = some (.int .i64 cs) := hSt.out.q5.cell 0
      have y51 : wr.cell? ⟨b5, 1, none⟩ = some (.int .i64 code) := hSt.out.q5.cell 1
      have y52 : wr.cell? ⟨b5, 2, none⟩ = some (.int .i64 way) := hSt.out.q5.cell 2
      have v0 : wr.cell? ⟨b4, 0, none⟩ = some (.int .i64 0) := hSt.out.q4.cell 0
      have v1 : wr.cell? ⟨b4, 1, none⟩ = some (.int .i64 0) := hSt.out.q4.cell 1
      have v2 : wr.cell? ⟨b4, 2, none⟩ = some (.int .i64 0) := hSt.out.q4.cell 2
      have u0 := hSt.out.q4.frz 0
      have u1 := hSt.out.q4.frz 1
      have u2 := hSt.out.q4.frz 2
      go_wp2
      have hB : Blk (((wr.setCell ⟨b4, 0, none⟩ (.int .i64 cs)).setCell ⟨b4, 1, none⟩ (.int .i64 code)).setCell ⟨b4, 2, none⟩ (.int .i64 way)) b4 #[.int .i64 cs, .int .i64 code, .int .i64 way] 42 := by
        have := ((hSt.out.q4.set 0 (.int .i64 cs)).set 1 (.int .i64 code)).set 2 (.int .i64 way)
        simpa using this
      have hbl : Hid (Below w.heap.size w (((wr.setCell ⟨b4, 0, none⟩ (.int .i64 cs)).setCell ⟨b4, 1, none⟩ (.int .i64 code)).setCell ⟨b4, 2, none⟩ (.int .i64 way))) := Lib.hid (Below_grown (Below_grown (Below_grown hSt.out.bel (grown_set _ _ _ _) hSt.out.lo.1) (grown_set _ _ _ _) hSt.out.lo.1) (grown_set _ _ _ _) hSt.out.lo.1)
      have e0 := hB.cell 0
      have e1 := hB.cell 1
      have e2 := hB.cell 2
      clear y5 y51 y52 v0 v1 v2 u0 u1 u2 hB
      generalize ((wr.setCell ⟨b4, 0, none⟩ (.int .i64 cs)).setCell ⟨b4, 1, none⟩ (.int .i64 code)).setCell ⟨b4, 2, none⟩ (.int .i64 way) = wz at *
      replace e0 : wz.cell? ⟨b4, 0, none⟩ = some (.int .i64 cs) := e0
      replace e1 : wz.cell? ⟨b4, 1, none⟩ = some (.int .i64 code) := e1
      replace e2 : wz.cell? ⟨b4, 2, none⟩ = some (.int .i64 way) := e2
      exact bodyPost_ret (v := .agg #[.int .i64 cs, .int .i64 code, .int .i64 way]) (by simp [results, Try.results35, go_sem, e0, e1, e2]) rfl ⟨(cs, code, way), hend.out, rfl, hbl.out⟩
end Go.Proofs.Ythnmglckhfajeaa
