/- The walk of final, on the program's side. Conditions: the tree is in memory as told. -/
import Derived.Test.YthnmglckhfajeaaF3
namespace Go.Proofs.Ythnmglckhfajeaa
open Go.RowKit
set_option linter.unusedVariables false

theorem take_getD {α : Type} (xs : List α) (d : α) (k : Nat) (h : k < xs.length) : xs.getD k d ∈ xs := by rw [getD_elem0 _ _ _ h]; exact List.getElem_mem _
theorem cntA_own {l : List Nod} {g : List Cdg} (n : Nat) (ht : TrOk l n) (hv : ∀ x ∈ g, (ix l x.2.2).isSome = true) (c : Int) : cntO g c ≤ cntA l g c := by
  unfold cntO cntA
  induction g with
  | nil => simp
  | cons x g ih =>
    have ih := ih (fun y hy => hv y (by simp [hy]))
    rw [List.filter_cons, List.filter_cons]
    by_cases h : x.2.2 = c
    · obtain ⟨⟨m, hm, _⟩, h0⟩ := code_lv ht (hv x (by simp))
      have hs := self_mem ht.len hm h0
      rw [h] at hs
      simp [h, hs]; omega
    · by_cases h2 : c ∈ upL l x.2.2 <;> simp [h, h2] <;> omega
/-- What holds while the codes are gone through. -/
def Go1 (g : List Cdg) (S : List Int) (code way : Int) : Prop :=
  (∃ c ∈ S, majO g c ∧ code = c ∧ way = if cntO g c = g.length then 1 else 2) ∨ ((∀ c ∈ S, ¬ majO g c) ∧ code = 0 ∧ way = 4)
def Go2 (l : List Nod) (g : List Cdg) (S : List Int) (code way : Int) : Prop :=
  (code ∈ S ∧ majA l g code ∧ (∀ c ∈ S, majA l g c → lvl l c ≤ lvl l code) ∧ way = 3) ∨ ((∀ c ∈ S, ¬ majA l g c) ∧ code = 0 ∧ way = 4)
def FinalPost (l : List Nod) (g : List Cdg) (w : World) (e : Ending) (w' : World) : Prop := ∃ r : Cdg, finF l g = r ∧ e = .returned (.agg #[.int .i64 r.1, .int .i64 r.2.1, .int .i64 r.2.2]) ∧ Below w.heap.size w w'
theorem Go1_hit {g : List Cdg} {S : List Int} {code way c : Int} (h : Go1 g S code way) (hc : majO g c) (hS : c ∉ S) : Go1 g (c :: S) c (if cntO g c = g.length then 1 else 2) :=
  .inl ⟨c, by simp, hc, rfl, rfl⟩
theorem Go1_miss {g : List Cdg} {S : List Int} {code way c : Int} (h : Go1 g S code way) (hc : ¬ majO g c) : Go1 g (c :: S) code way := by
  rcases h with ⟨d, h1, h2⟩ | ⟨h1, h2⟩
  · exact .inl ⟨d, by simp [h1], h2⟩
  · exact .inr ⟨fun d hd => by rcases List.mem_cons.1 hd with rfl | hd; exact hc; exact h1 d hd, h2⟩
section
variable {l : List Nod} {g : List Cdg} {S : List Int} {code way : Int} {n : Nat}
theorem Go2_hit {c : Int} (h : Go2 l g S code way) (hc : majA l g c) (hl : lvl l code < lvl l c) : Go2 l g (c :: S) c 3 := by
  refine .inl ⟨by simp, hc, fun d hd hm => ?_, rfl⟩
  rcases List.mem_cons.1 hd with rfl | hd
  · exact Nat.le_refl _
  · rcases h with ⟨_, _, h3, _⟩ | ⟨h1, _⟩
    · have := h3 d hd hm; omega
    · exact absurd hm (h1 d hd)
theorem Go2_miss {c : Int} (h : Go2 l g S code way) (hc : ¬ (majA l g c ∧ lvl l code < lvl l c)) (hp : 0 < lvl l c) : Go2 l g (c :: S) code way := by
  rcases h with ⟨h1, h2, h3, h4⟩ | ⟨h1, h2, h3⟩
  · refine .inl ⟨by simp [h1], h2, fun d hd hm => ?_, h4⟩
    rcases List.mem_cons.1 hd with rfl | hd
    · exact Nat.not_lt.1 (fun hl => hc ⟨hm, hl⟩)
    · exact h3 d hd hm
  · refine .inr ⟨fun d hd hm => ?_, h2, h3⟩
    rcases List.mem_cons.1 hd with rfl | hd
    · exact hc ⟨hm, by rw [h2, lvl_zero]; exact hp⟩
    · exact h1 d hd hm
theorem Go1_end (ht : TrOk l n) (hv : ∀ x ∈ g, (ix l x.2.2).isSome = true) (h : Go1 g S code way) (hS : ∀ c, 0 < cntO g c → c ∈ S) : (code ≠ 0 → finF l g = ((g.getD 0 cdg0).1, code, way)) ∧ (code = 0 → (∀ c, ¬ majO g c) ∧ way = 4) := by
  rcases h with ⟨c, h1, h2, h3, h4⟩ | ⟨h1, h2, h3⟩
  · subst h3
    refine ⟨fun _ => finF_eq ht hv ⟨rfl, .inl ⟨h2, h4⟩⟩, fun h0 => ?_⟩
    exfalso
    obtain ⟨x, hx, he⟩ := cnt_mem (g := g) (c := code) (by unfold majO at h2; omega)
    exact (code_lv ht (hv x hx)).2 (he.trans h0)
  · exact ⟨fun h => absurd h2 h, fun _ => ⟨fun c hc => h1 c (hS c (by unfold majO at hc; omega)) hc, h3⟩⟩
theorem Go2_end (ht : TrOk l n) (hv : ∀ x ∈ g, (ix l x.2.2).isSome = true) (hno : ∀ c, ¬ majO g c) (h : Go2 l g S code way) (hS : ∀ c, 0 < cntA l g c → c ∈ S) : finF l g = ((g.getD 0 cdg0).1, code, way) := by
  refine finF_eq ht hv ⟨rfl, .inr ?_⟩
  rcases h with ⟨h1, h2, h3, h4⟩ | ⟨h1, h2, h3⟩
  · exact .inl ⟨hno, h2, fun c hc => h3 c (hS c (by unfold majA at hc; omega)) hc, h4⟩
  · exact .inr ⟨hno, fun c hc => h1 c (hS c (by unfold majA at hc; omega)) hc, h2, h3⟩
end

theorem cnF_pos {n : Nat} (h : 0 < n) : cnF n = some (n : Int) := by unfold cnF; rw [if_neg (by omega)]
def abG (l : List Nod) (g : List Cdg) : Int → Option Int := fun c => cnF (cntA l g c)
theorem Fz.grown {φ : Phi} {w w' : World} {r : Nat} (h : Fz φ w) (hr : φ r = none) (hg : w.grownBy w' (some r)) : Fz φ w' := fun b o hb =>
  (hg.block b (h.mlt hb) (fun e => by cases e; rw [hr] at hb; cases hb)).trans (h b o hb)
section
variable {w0 wr w' : World} {r5 r6 b4 : Nat} {f5 f6 : Int → Option Int} {cs4 : Array Value} {T : TypeId}
theorem FnSt.grown (h : FnSt w0 r5 r6 b4 f5 f6 cs4 T wr) {r : Nat} (hg : wr.grownBy w' (some r)) (hr : w0.heap.size ≤ r) (h5 : r5 ≠ r) (h6 : r6 ≠ r) (h4 : b4 ≠ r) : FnSt w0 r5 r6 b4 f5 f6 cs4 T w' :=
  ⟨Below_grown h.bel hg hr, h.m5.grown hg h5, h.m6.grown hg h6, Blk.grown h.b hg h4, h.lo, h.ne⟩
theorem grown_set (w : World) (g off : Nat) (u : Value) : w.grownBy (w.setCell ⟨g, off, none⟩ u) (some g) := ⟨rfl, rfl, rfl, by simp [World.setCell], fun k _ hk => Below.heap_setCell _ _ _ _ (by intro e; exact hk (by rw [e]))⟩
/-- .. while a map is gone through, with a box. -/
structure RgSt (w0 : World) (r5 r6 b4 : Nat) (f5 f6 : Int → Option Int) (cs4 : Array Value) (T : TypeId) (rm ri b11 : Nat) (f : Int → Option Int) (S : List Int) (cs : Array Value) (wr : World) : Prop where
  st : FnSt w0 r5 r6 b4 f5 f6 cs4 T wr
  rg : RngF wr rm ri f S
  b : Blk wr b11 cs T
  lo : w0.heap.size ≤ ri ∧ w0.heap.size ≤ b11
  ni : r5 ≠ ri ∧ r6 ≠ ri ∧ b4 ≠ ri
  nb : r5 ≠ b11 ∧ r6 ≠ b11 ∧ b4 ≠ b11 ∧ ri ≠ b11 ∧ rm ≠ b11
variable {rm ri b11 : Nat} {f : Int → Option Int} {S S' : List Int} {cs : Array Value}
theorem RgSt.next (h : RgSt w0 r5 r6 b4 f5 f6 cs4 T rm ri b11 f S cs wr) (hg : wr.grownBy w' (some ri)) (hR : RngF w' rm ri f S') : RgSt w0 r5 r6 b4 f5 f6 cs4 T rm ri b11 f S' cs w' :=
  ⟨h.st.grown hg h.lo.1 h.ni.1 h.ni.2.1 h.ni.2.2, hR, Blk.grown h.b hg h.nb.2.2.2.1.symm, h.lo, h.ni, h.nb⟩
theorem RgSt.set (h : RgSt w0 r5 r6 b4 f5 f6 cs4 T rm ri b11 f S cs wr) (off : Nat) (u : Value) : RgSt w0 r5 r6 b4 f5 f6 cs4 T rm ri b11 f S (cs.setIfInBounds off u) (wr.setCell ⟨b11, off, none⟩ u) :=
  ⟨h.st.grown (grown_set wr b11 off u) h.lo.2 h.nb.1 h.nb.2.1 h.nb.2.2.1, h.rg.set h.nb.2.2.2.2 h.nb.2.2.2.1 u, h.b.set off u, h.lo, h.ni, h.nb⟩
theorem RgSt.left (h : RgSt w0 r5 r6 b4 f5 f6 cs4 T rm ri b11 f S cs wr) (off : Nat) (u : Value) : (wr.setCell ⟨b11, off, none⟩ u).rangeLeft rm ri = wr.rangeLeft rm ri := by
  unfold World.rangeLeft
  rw [Below.heap_setCell _ _ _ _ h.nb.2.2.2.2, Below.heap_setCell _ _ _ _ h.nb.2.2.2.1]
theorem RgSt.drewN (h : RgSt w0 r5 r6 b4 f5 f6 cs4 T rm ri b11 f S cs wr) (q : Nat) : RgSt w0 r5 r6 b4 f5 f6 cs4 T rm ri b11 f S cs (wr.drewN q) := ⟨h.st.drewN q, h.rg.drewN q, h.b, h.lo, h.ni, h.nb⟩
end

set_option maxRecDepth 100000 in
set_option maxHeartbeats 4000000 in
theorem final_any {w : World} {bt : Nat} {a : Option Addr} {c n m1 m2 : Nat} {l : List Nod} {φ : Phi} (hφ : Fz φ w) (s : SlV φ a c l) (ht : TreeW w bt a c n m1 m2 (atF l) (lvF l)) (hok : Hid (TrOk l n)) {ag : Option Addr} {cg ng : Nat} {g : List Cdg} (sg : SlV φ ag cg g) (hng : Hid (g.length = ng)) (hn0 : 0 < ng) (hn2 : ng ≤ 20000) (hv : Hid (∀ x ∈ g, (ix l x.2.2).isSome = true)) :
    Calls Try.prog 33 #[.pointer (some ⟨bt, 0, none⟩), .slice ag ng cg] w (FinalPost l g w) := by
  have HT := Lib.hid ht
  clear ht
  have hmm := @run_makeMap Try.prog
  go_enter Try.func33, Try.ntmps33
  go_wp2
  have hSt : Hid (FnSt w (w.heap.size + 1) (w.heap.size + 1 + 1) w.heap.size (ownF (g.take 0)) (abG l (g.take 0)) #[.int .i64 0, .int .i64 0, .int .i64 0] 42 (((w.alloc (.cells #[.int .i64 0, .int .i64 0, .int .i64 0] 42)).alloc (.map #[] 0)).alloc (.map #[] 0))) := Lib.hid (by
    have ba := (Below.refl w.heap.size w).alloc (Nat.le_refl _) (.cells #[.int .i64 0, .int .i64 0, .int .i64 0] 42)
    have b0 := Blk.new w #[.int .i64 0, .int .i64 0, .int .i64 0] 42
    have e1 : (w.alloc (.cells #[.int .i64 0, .int .i64 0, .int .i64 0] 42)).heap.size = w.heap.size + 1 := by simp
    generalize w.alloc (.cells #[.int .i64 0, .int .i64 0, .int .i64 0] 42) = wa at *
    have e2 : (wa.alloc (.map #[] 0)).heap.size = w.heap.size + 1 + 1 := by simp [e1]
    have h1 : MapW (wa.alloc (.map #[] 0)) wa.heap.size (fun _ => none) := ⟨_, [], heap_alloc_new wa _, MapO.empty, fun _ => rfl⟩
    have h2 : MapW ((wa.alloc (.map #[] 0)).alloc (.map #[] 0)) (wa.alloc (.map #[] 0)).heap.size (fun _ => none) := ⟨_, [], heap_alloc_new _ _, MapO.empty, fun _ => rfl⟩
    have h1' := h1.callB ((Below.refl _ _).alloc (Nat.le_refl _) (.map #[] 0))
    rw [e1] at h1'
    rw [e2] at h2
    have z5 : ownF (g.take 0) = fun _ => none := by funext c; simp [ownF, cntO, cnF]
    have z6 : abG l (g.take 0) = fun _ => none := by funext c; simp [abG, cntA, cnF]
    rw [z5, z6]
    exact ⟨(ba.alloc (by rw [e1]; omega) _).alloc (by rw [e2]; omega) _, h1', h2, (b0.alloc _).alloc _, ⟨by omega, by omega, by omega⟩, by omega, by omega, by omega⟩)
  clear hmm
  generalize ((w.alloc (.cells #[.int .i64 0, .int .i64 0, .int .i64 0] 42)).alloc (.map #[] 0)).alloc (.map #[] 0) = wg at *
  generalize w.heap.size + 1 + 1 = r6 at *
  generalize w.heap.size + 1 = r5 at *
  generalize hb4 : w.heap.size = b4 at *
  replace hb4 := Lib.hid hb4
  go_loopw [20] (fun i wr => ∃ k : Nat, k ≤ ng ∧ i = .int .i64 k ∧ Hid (FnSt w r5 r6 b4 (ownF (g.take k)) (abG l (g.take k)) #[.int .i64 0, .int .i64 0, .int .i64 0] 42 wr)) (fun i _ => ng - (intOf i).toNat)
  case atStart => exact ⟨0, Nat.zero_le _, rfl, hSt⟩
  case round =>
    clear hSt
    obtain ⟨k, hk, rfl, hSt⟩ := hrel
    by_cases hlt : k < ng
    · obtain ⟨b, off, rfl, f⟩ := sg.cdgD hng hlt
      obtain ⟨hb, d1, d2, d3⟩ := f k hlt wr (hφ.below hSt.out.bel)
      have htk := Lib.hid (take_snocD cdg0 g k ng hng.out hlt)
      have hvx := Lib.hid (hv.out _ (take_getD g cdg0 k (by rw [hng.out]; exact hlt)))
      clear f
      generalize hX : g.getD k cdg0 = X at *
      obtain ⟨x1, x2, x3⟩ := X
      replace hX := Lib.hid hX
      dsimp only at d1 d2 d3
      replace hvx : Hid ((ix l x3).isSome = true) := hvx
      have hco : cntO (g.take k) x3 ≤ 20000 := by have := cntO_le (g.take k) x3; rw [List.length_take] at this; omega
      have hstep5 := Lib.hid (ownF_step (g.take k) (x1, x2, x3))
      have hS1 := Lib.hid (hSt.out.alloc (.cells #[.int .i64 x1, .int .i64 x2, .int .i64 x3] 32))
      have hl5 := hS1.out.m5.look_no x3
      rw [show ((ownF (g.take k) x3).getD 0) = (cntO (g.take k) x3 : Int) from cnF_getD _] at hl5
      obtain ⟨o5, p5, q5⟩ := hS1.out.put5 x3 ((cntO (g.take k) x3 : Int) + 1)
      have hp5 : (Instr.mapUpdate 64 (.map (some r5)) (.int .i64 x3) (.int .i64 ((cntO (g.take k) x3 : Int) + 1))).run Try.prog (wr.alloc (.cells #[.int .i64 x1, .int .i64 x2, .int .i64 x3] 32)) = .ok () (setMap (wr.alloc (.cells #[.int .i64 x1, .int .i64 x2, .int .i64 x3] 32)) r5 o5) := p5 0
      have hSy : Hid (FnSt w r5 r6 b4 (updF (ownF (g.take k)) x3 ((cntO (g.take k) x3 : Int) + 1)) (abG l (g.take k)) #[.int .i64 0, .int .i64 0, .int .i64 0] 42 (setMap (wr.alloc (.cells #[.int .i64 x1, .int .i64 x2, .int .i64 x3] 32)) r5 o5)) := Lib.hid (q5 0)
      have hr5 : r5 ≠ wr.heap.size := by have := hSt.out.m5.lt; omega
      have hz : (setMap (wr.alloc (.cells #[.int .i64 x1, .int .i64 x2, .int .i64 x3] 32)) r5 o5).cell? ⟨wr.heap.size, 2, none⟩ = some (.int .i64 x3) := (far ((setMap_grown _ r5 o5).block wr.heap.size (by simp) (by simpa using fun e => hr5 e.symm))).1.trans (box_at 2)
      rw [show updF (ownF (g.take k)) x3 ((cntO (g.take k) x3 : Int) + 1) = ownF (g.take (k + 1)) by rw [htk.out]; exact hstep5.out] at hSy
      generalize hcn : cntO (g.take k) x3 = cn at *
      replace hcn := Lib.hid hcn
      clear p5 q5
      go_wp2_with fail
      clear hl5 hp5 hz d1 d2 d3 hb hSt hS1
      generalize setMap (wr.alloc (.cells #[.int .i64 x1, .int .i64 x2, .int .i64 x3] 32)) r5 o5 = wy at *
      refine (up_any (hφ.below hSy.out.bel) s (HT.out.callB hSy.out.bel) hok x3 (.inr hvx.out)).mono ?_
      rintro e wu ⟨au, cu, φ1, rfl, hiu, hou⟩
      obtain ⟨φ2, hle2, hi2, su, _⟩ := hou.release hiu
      have hS2 := Lib.hid (hSy.out.callB hi2.bel)
      have hφr6 : Hid (φ2 r6 = none) := Lib.hid (by
        rw [hi2.new r6 hSy.out.m6.lt]
        cases h : φ r6 with
        | none => rfl
        | some o => have := hφ.mlt h; have := hSy.out.lo.2.1; omega)
      have hF2 := Lib.hid hi2.fz
      obtain ⟨⟨mm, hmm, hm8⟩, _⟩ := code_lv hok.out hvx.out
      have hnd : Hid ((upL l x3).Nodup) := Lib.hid (by rw [(upL_eq hok.out.len hmm).1]; exact upA_nodup hmm)
      obtain ⟨hul, _⟩ := upL_length hok.out hvx.out
      have hul8 : (upL l x3).length ≤ 8 := by rw [hul, (upL_eq hok.out.len hmm).2]; exact hm8
      obtain ⟨nu, hnu⟩ : ∃ nu, Hid ((upL l x3).length = nu) := ⟨_, Lib.hid rfl⟩
      rw [hnu.out] at hul8 ⊢
      have hS2' : Hid (FnSt w r5 r6 b4 (ownF (g.take (k + 1))) (abF l (g.take k) x3 0) #[.int .i64 0, .int .i64 0, .int .i64 0] 42 wu) := Lib.hid (by rw [abF_zero]; exact hS2.out)
      have hfull := Lib.hid (abF_full l (g.take k) (x1, x2, x3))
      clear hiu hou hle2 hi2 hmm hul hS2 hSy hm8
      go_wp2
      go_loopw [34] (fun i wi => ∃ j : Nat, j ≤ nu ∧ i = .int .i64 j ∧ Hid (FnSt w r5 r6 b4 (ownF (g.take (k + 1))) (abF l (g.take k) x3 j) #[.int .i64 0, .int .i64 0, .int .i64 0] 42 wi) ∧ Hid (Fz φ2 wi)) (fun i _ => nu - (intOf i).toNat)
      case atStart => exact ⟨0, Nat.zero_le _, rfl, hS2', hF2⟩
      case round =>
        clear hS2' hF2
        rename World => wi
        obtain ⟨j, hj, rfl, hSi, hFi⟩ := hrel
        by_cases hjl : j < nu
        · obtain ⟨bu, ou, rfl, fu⟩ := su.intsD hnu hjl
          have c1 := (fu j hjl wi hFi.out).2
          have hcb := (fu j hjl wi hFi.out).1
          obtain ⟨q1, q2⟩ := abF_step l (g.take k) x3 (j := j) (by rw [hnu.out]; exact hjl) rfl hnd.out
          clear fu
          generalize hY : (upL l x3).getD j 0 = y at *
          replace hY := Lib.hid hY
          have hca : cntA l (g.take k) y ≤ 20000 := by have := cntA_le l (g.take k) y; rw [List.length_take] at this; omega
          have hl6 := hSi.out.m6.look_no y
          rw [q1, cnF_getD] at hl6
          obtain ⟨o6, p6, q6⟩ := hSi.out.put6 y ((cntA l (g.take k) y : Int) + 1)
          have hp6 : (Instr.mapUpdate 64 (.map (some r6)) (.int .i64 y) (.int .i64 ((cntA l (g.take k) y : Int) + 1))).run Try.prog wi = .ok () (setMap wi r6 o6) := p6 0
          have hS6 : Hid (FnSt w r5 r6 b4 (ownF (g.take (k + 1))) (updF (abF l (g.take k) x3 j) y ((cntA l (g.take k) y : Int) + 1)) #[.int .i64 0, .int .i64 0, .int .i64 0] 42 (setMap wi r6 o6)) := Lib.hid (q6 0)
          rw [q2] at hS6
          have hF6 := Lib.hid (hFi.out.grown hφr6.out (setMap_grown wi r6 o6))
          generalize hcn2 : cntA l (g.take k) y = ca at *
          replace hcn2 := Lib.hid hcn2
          clear p6 q6 q1 q2
          go_wp2
          go_roundw
          case rel => exact ⟨j + 1, by omega, by go_num, hS6, hF6⟩
          case measure => simp [intOf]; omega
        · obtain rfl : j = nu := by omega
          go_wp2
          go_roundw
          case rel =>
            refine ⟨k + 1, by omega, by go_num, ?_⟩
            have h1 := hSi
            rw [← hnu.out, show abF l (g.take k) x3 (upL l x3).length = abG l (g.take (k + 1)) by rw [htk.out]; exact hfull.out] at h1
            exact h1
          case measure => simp [intOf]; omega
    · obtain rfl : k = ng := by omega
      rename Nat => ng
      have ex : g.take ng = g := by rw [← hng.out, List.take_length]
      rw [ex] at hSt
      clear ex hlt hk
      obtain ⟨b, off, rfl, f⟩ := sg.cdgD hng hn0
      have d1 : wr.cell? ⟨b, off, none⟩ = some (.int .i64 (g.getD 0 cdg0).1) := by have := (f 0 hn0 wr (hφ.below hSt.out.bel)).2.1; simpa using this
      have hb := (f 0 hn0 wr (hφ.below hSt.out.bel)).1
      clear f
      generalize hcs : (g.getD 0 cdg0).1 = cs at *
      replace hcs := Lib.hid hcs
      have hS1 := Lib.hid (hSt.out.alloc (.cells #[.int .i64 cs, .int .i64 0, .int .i64 4] 42))
      have hB11 := Lib.hid (Blk.new wr #[.int .i64 cs, .int .i64 0, .int .i64 4] 42)
      have hlt5 := hSt.out.m5.lt
      have hlt6 := hSt.out.m6.lt
      have hlt4 := hSt.out.b.lt
      have hwsz := hSt.out.bel.size
      have hm5 := Lib.hid hS1.out.m5
      go_wp2_with (at_range; refine wpList_range_F rfl _ rfl rfl hm5.out ?_; intro w0 hrg0 hb0 hs0)
      go_frame
      have hR0 : Hid (RgSt w r5 r6 b4 (ownF g) (abG l g) #[.int .i64 0, .int .i64 0, .int .i64 0] 42 r5 (wr.alloc (.cells #[.int .i64 cs, .int .i64 0, .int .i64 4] 42)).heap.size wr.heap.size (ownF g) [] #[.int .i64 cs, .int .i64 0, .int .i64 4] w0) := Lib.hid ⟨hS1.out.callB hb0, hrg0, hB11.out.callB hb0, by simp; omega, by simp; omega, by simp; omega⟩
      clear hrg0 hb0 hs0 hSt hS1 hB11 hm5 d1 hb
      generalize (wr.alloc (.cells #[.int .i64 cs, .int .i64 0, .int .i64 4] 42)).heap.size = ri at *
      generalize wr.heap.size = b11 at *
      clear hlt5 hlt6 hlt4 hwsz
      go_loopw [] (fun wr => ∃ (S : List Int) (code way : Int), Hid (Go1 g S code way) ∧ Hid (RgSt w r5 r6 b4 (ownF g) (abG l g) #[.int .i64 0, .int .i64 0, .int .i64 0] 42 r5 ri b11 (ownF g) S #[.int .i64 cs, .int .i64 code, .int .i64 way] wr)) (fun wr => wr.rangeLeft r5 ri)
      case atStart => exact ⟨[], 0, 4, Lib.hid (.inr ⟨(fun c h => by cases h), rfl, rfl⟩), hR0⟩
      case round =>
        clear hR0
        rename World => wr
        obtain ⟨S, code, way, hgo, hR⟩ := hrel
        go_wp2_with (at_next; refine wpList_next_F rfl _ rfl rfl hR.out.rg ?_ ?_)
        · intro hdone
          have hend := Lib.hid (Go1_end hok.out hv.out hgo.out (fun c hc => hdone c _ (cnF_pos hc)))
          rw [hcs.out] at hend
          clear hdone
          have x1 : wr.cell? ⟨b11, 1, none⟩ = some (.int .i64 code) := hR.out.b.cell 1
          by_cases h0 : code = 0
          · have hg : ((code : Int) != 0) = false := by simp [h0]
            obtain ⟨hno, hway⟩ := hend.out.2 h0
            replace hno := Lib.hid hno
            subst h0
            subst hway
            have hm6 := Lib.hid hR.out.st.m6
            go_wp2_with (at_range; refine wpList_range_F rfl _ rfl rfl hm6.out ?_; intro w0 hrg0 hb0 hs0)
            (try go_frame)
            have hsz := Lib.hid hR.out.st.bel.size
            have hlt5 := hR.out.st.m5.lt
            have hlt6 := hR.out.st.m6.lt
            have hlt4 := hR.out.st.b.lt
            have hltb := hR.out.b.lt
            have hR0 : Hid (RgSt w r5 r6 b4 (ownF g) (abG l g) #[.int .i64 0, .int .i64 0, .int .i64 0] 42 r6 wr.heap.size b11 (abG l g) [] #[.int .i64 cs, .int .i64 0, .int .i64 4] w0) := Lib.hid ⟨hR.out.st.callB hb0, hrg0, hR.out.b.callB hb0, ⟨by have := hsz.out; omega, hR.out.lo.2⟩, ⟨by omega, by omega, by omega⟩, ⟨hR.out.nb.1, hR.out.nb.2.1, hR.out.nb.2.2.1, by omega, hR.out.nb.2.1⟩⟩
            clear hrg0 hb0 hs0 hm6 hR x1 hend hgo hlt5 hlt6 hlt4 hltb hsz
            generalize wr.heap.size = rj at *
            go_loopw [] (fun wr => ∃ (S : List Int) (code way : Int), Hid (Go2 l g S code way) ∧ Hid (RgSt w r5 r6 b4 (ownF g) (abG l g) #[.int .i64 0, .int .i64 0, .int .i64 0] 42 r6 rj b11 (abG l g) S #[.int .i64 cs, .int .i64 code, .int .i64 way] wr)) (fun wr => wr.rangeLeft r6 rj)
            case atStart => exact ⟨[], 0, 4, Lib.hid (.inr ⟨(fun c h => by cases h), rfl, rfl⟩), hR0⟩
            case round =>
              clear hR0
              rename World => wr
              obtain ⟨S, code, way, hgo, hR⟩ := hrel
              go_wp2_with (at_next; refine wpList_next_F rfl _ rfl rfl hR.out.rg ?_ ?_)
              · intro hdone
                have hend := Lib.hid (Go2_end hok.out hv.out hno.out hgo.out (fun c hc => hdone c _ (cnF_pos hc)))
                rw [hcs.out] at hend
                clear hdone
                have z0 : wr.cell? ⟨b11, 0, none⟩ = some (.int .i64 cs) := hR.out.b.cell 0
                have z1 : wr.cell? ⟨b11, 1, none⟩ = some (.int .i64 code) := hR.out.b.cell 1
                have z2 : wr.cell? ⟨b11, 2, none⟩ = some (.int .i64 way) := hR.out.b.cell 2
                have v0 : wr.cell? ⟨b4, 0, none⟩ = some (.int .i64 0) := hR.out.st.b.cell 0
                have v1 : wr.cell? ⟨b4, 1, none⟩ = some (.int .i64 0) := hR.out.st.b.cell 1
                have v2 : wr.cell? ⟨b4, 2, none⟩ = some (.int .i64 0) := hR.out.st.b.cell 2
                have u0 := hR.out.st.b.frz 0
                have u1 := hR.out.st.b.frz 1
                have u2 := hR.out.st.b.frz 2
                go_wp2
                have hB : Blk (((wr.setCell ⟨b4, 0, none⟩ (.int .i64 cs)).setCell ⟨b4, 1, none⟩ (.int .i64 code)).setCell ⟨b4, 2, none⟩ (.int .i64 way)) b4 #[.int .i64 cs, .int .i64 code, .int .i64 way] 42 := by
                  have := ((hR.out.st.b.set 0 (.int .i64 cs)).set 1 (.int .i64 code)).set 2 (.int .i64 way)
                  simpa using this
                have hbl : Hid (Below w.heap.size w (((wr.setCell ⟨b4, 0, none⟩ (.int .i64 cs)).setCell ⟨b4, 1, none⟩ (.int .i64 code)).setCell ⟨b4, 2, none⟩ (.int .i64 way))) := Lib.hid (Below_grown (Below_grown (Below_grown hR.out.st.bel (grown_set _ _ _ _) hR.out.st.lo.2.2) (grown_set _ _ _ _) hR.out.st.lo.2.2) (grown_set _ _ _ _) hR.out.st.lo.2.2)
                have e0 := hB.cell 0
                have e1 := hB.cell 1
                have e2 := hB.cell 2
                clear z0 z1 z2 v0 v1 v2 u0 u1 u2 hB
                generalize ((wr.setCell ⟨b4, 0, none⟩ (.int .i64 cs)).setCell ⟨b4, 1, none⟩ (.int .i64 code)).setCell ⟨b4, 2, none⟩ (.int .i64 way) = wz at *
                replace e0 : wz.cell? ⟨b4, 0, none⟩ = some (.int .i64 cs) := e0
                replace e1 : wz.cell? ⟨b4, 1, none⟩ = some (.int .i64 code) := e1
                replace e2 : wz.cell? ⟨b4, 2, none⟩ = some (.int .i64 way) := e2
                exact bodyPost_ret (v := .agg #[.int .i64 cs, .int .i64 code, .int .i64 way]) (by simp [results, Try.results33, go_sem, e0, e1, e2]) rfl ⟨(cs, code, way), hend.out, rfl, hbl.out⟩
              · intro c x w' hfc hS hR' hg2 hsz hlt hen
                obtain ⟨hc0, rfl⟩ := cnF_some hfc
                have hR2 := Lib.hid (hR.out.next hg2 hR')
                have hvc := Lib.hid (majA_vld hok.out hv.out (c := c) hc0)
                have hcle := cntA_le l g c
                rw [hng.out] at hcle
                have hpos := Lib.hid (upL_length hok.out hvc.out).2
                have hvcode : Hid (code = 0 ∨ (ix l code).isSome = true) := Lib.hid (by
                  rcases hgo.out with ⟨_, h2, _⟩ | ⟨_, h2, _⟩
                  · exact .inr (majA_vld hok.out hv.out (by unfold majA at h2; omega))
                  · exact .inl h2)
                have hmaj : Hid (majA l g c ↔ ng < 2 * cntA l g c) := Lib.hid (by unfold majA; rw [hng.out])
                have hlt' := Lib.hid hlt
                have hS' := Lib.hid hS
                generalize hm : cntA l g c = m at *
                replace hm := Lib.hid hm
                have hw2 : IntKind.i64.wrap (2 * (m : Int)) = 2 * m := IntWalk.i64_in _ (by omega)
                have y1 : w'.cell? ⟨b11, 1, none⟩ = some (.int .i64 code) := hR2.out.b.cell 1
                have y2 : w'.cell? ⟨b11, 2, none⟩ = some (.int .i64 way) := hR2.out.b.cell 2
                have f1 := hR2.out.b.frz 1
                have f2 := hR2.out.b.frz 2
                have HT2 := Lib.hid (HT.out.callB hR2.out.st.bel)
                clear hfc hR' hg2 hsz hlt hS
                by_cases hmj : ng < 2 * m
                · have hd : decide (2 * (m : Int) > (ng : Int)) = true := decide_eq_true (by omega)
                  have e2 : w'.cell? ⟨bt, 2, none⟩ = some (.map (some m2)) := HT2.out.blk.cell 2
                  have q1 := Lib.hid (lvF_at hok.out (.inr hvc.out))
                  have q2 := Lib.hid (lvF_at hok.out hvcode.out)
                  have HL1 : ∀ q, (Instr.lookup 64 (.map (some m2)) (.int .i64 c) false).run Try.prog (w'.drewN q) = .ok (.int .i64 (lvl l c : Int)) (w'.drewN q) := fun q => by have := (HT2.out.lev.drewN q).look_no c; rwa [q1.out.1] at this
                  have HL2 : ∀ q, (Instr.lookup 64 (.map (some m2)) (.int .i64 code) false).run Try.prog (w'.drewN q) = .ok (.int .i64 (lvl l code : Int)) (w'.drewN q) := fun q => by have := (HT2.out.lev.drewN q).look_no code; rwa [q2.out.1] at this
                  by_cases hlv : lvl l code < lvl l c
                  · have hd2 : decide ((lvl l c : Int) > (lvl l code : Int)) = true := decide_eq_true (by omega)
                    have hnew := Lib.hid (Go2_hit hgo.out (hmaj.out.2 hmj) hlv)
                    generalize lvl l c = lc at *
                    generalize lvl l code = ld at *
                    go_wp2
                    go_quiet (fail)
                    clear HL1 HL2 hw2 e2
                    go_wp2
                    have hR3 := Lib.hid (((hR2.out.drewN nq).set 1 (.int .i64 c)).set 2 (.int .i64 3))
                    go_roundw
                    case rel => exact ⟨c :: S, c, 3, hnew, hR3⟩
                    case measure =>
                      rw [((hR2.out.drewN nq).set 1 (.int .i64 c)).left, (hR2.out.drewN nq).left]
                      exact hlt'.out
                  · have hd2 : decide ((lvl l c : Int) > (lvl l code : Int)) = false := decide_eq_false (by omega)
                    have hnew := Lib.hid (Go2_miss hgo.out (fun h => hlv h.2) hpos.out)
                    generalize lvl l c = lc at *
                    generalize lvl l code = ld at *
                    go_wp2
                    go_quiet (fail)
                    clear HL1 HL2 hw2 e2
                    go_wp2
                    have hR3 := Lib.hid (hR2.out.drewN nq)
                    go_roundw
                    case rel => exact ⟨c :: S, code, way, hnew, hR3⟩
                    case measure => exact hlt'.out
                · have hd : decide (2 * (m : Int) > (ng : Int)) = false := decide_eq_false (by omega)
                  have hnew := Lib.hid (Go2_miss hgo.out (fun h => hmj (hmaj.out.1 h.1)) hpos.out)
                  go_wp2
                  go_quiet (fail)
                  clear hw2
                  go_wp2
                  have hR3 := Lib.hid (hR2.out.drewN nq)
                  go_roundw
                  case rel => exact ⟨c :: S, code, way, hnew, hR3⟩
                  case measure => exact hlt'.out
          · have hg : ((code : Int) != 0) = true := by simp [h0]
            have hend2 := Lib.hid (hend.out.1 h0)
            clear h0 hend
            replace hend := hend2
            clear hend2
            have z0 : wr.cell? ⟨b11, 0, none⟩ = some (.int .i64 cs) := hR.out.b.cell 0
            have z1 : wr.cell? ⟨b11, 1, none⟩ = some (.int .i64 code) := hR.out.b.cell 1
            have z2 : wr.cell? ⟨b11, 2, none⟩ = some (.int .i64 way) := hR.out.b.cell 2
            have v0 : wr.cell? ⟨b4, 0, none⟩ = some (.int .i64 0) := hR.out.st.b.cell 0
            have v1 : wr.cell? ⟨b4, 1, none⟩ = some (.int .i64 0) := hR.out.st.b.cell 1
            have v2 : wr.cell? ⟨b4, 2, none⟩ = some (.int .i64 0) := hR.out.st.b.cell 2
            have u0 := hR.out.st.b.frz 0
            have u1 := hR.out.st.b.frz 1
            have u2 := hR.out.st.b.frz 2
            go_wp2
            have hB : Blk (((wr.setCell ⟨b4, 0, none⟩ (.int .i64 cs)).setCell ⟨b4, 1, none⟩ (.int .i64 code)).setCell ⟨b4, 2, none⟩ (.int .i64 way)) b4 #[.int .i64 cs, .int .i64 code, .int .i64 way] 42 := by
              have := ((hR.out.st.b.set 0 (.int .i64 cs)).set 1 (.int .i64 code)).set 2 (.int .i64 way)
              simpa using this
            have hbl : Hid (Below w.heap.size w (((wr.setCell ⟨b4, 0, none⟩ (.int .i64 cs)).setCell ⟨b4, 1, none⟩ (.int .i64 code)).setCell ⟨b4, 2, none⟩ (.int .i64 way))) := Lib.hid (Below_grown (Below_grown (Below_grown hR.out.st.bel (grown_set _ _ _ _) hR.out.st.lo.2.2) (grown_set _ _ _ _) hR.out.st.lo.2.2) (grown_set _ _ _ _) hR.out.st.lo.2.2)
            have e0 := hB.cell 0
            have e1 := hB.cell 1
            have e2 := hB.cell 2
            clear z0 z1 z2 v0 v1 v2 u0 u1 u2 hB
            generalize ((wr.setCell ⟨b4, 0, none⟩ (.int .i64 cs)).setCell ⟨b4, 1, none⟩ (.int .i64 code)).setCell ⟨b4, 2, none⟩ (.int .i64 way) = wz at *
            replace e0 : wz.cell? ⟨b4, 0, none⟩ = some (.int .i64 cs) := e0
            replace e1 : wz.cell? ⟨b4, 1, none⟩ = some (.int .i64 code) := e1
            replace e2 : wz.cell? ⟨b4, 2, none⟩ = some (.int .i64 way) := e2
            exact bodyPost_ret (v := .agg #[.int .i64 cs, .int .i64 code, .int .i64 way]) (by simp [results, Try.results33, go_sem, e0, e1, e2]) rfl ⟨(cs, code, way), hend.out, rfl, hbl.out⟩
        · intro c x w' hfc hS hR' hg2 hsz hlt hen
          obtain ⟨hc0, rfl⟩ := cnF_some hfc
          have hR2 := Lib.hid (hR.out.next hg2 hR')
          have hcle := cntO_le g c
          rw [hng.out] at hcle
          have hmaj : Hid (majO g c ↔ ng < 2 * cntO g c) := Lib.hid (by unfold majO; rw [hng.out])
          have hhit := Lib.hid (fun h => Go1_hit hgo.out (c := c) h hS)
          rw [hng.out] at hhit
          have hmiss := Lib.hid (fun h => Go1_miss hgo.out (c := c) h)
          have hlt' := Lib.hid hlt
          generalize hm : cntO g c = m at *
          replace hm := Lib.hid hm
          have hw2 : IntKind.i64.wrap (2 * (m : Int)) = 2 * m := IntWalk.i64_in _ (by omega)
          have y0 : w'.cell? ⟨b11, 0, none⟩ = some (.int .i64 cs) := hR2.out.b.cell 0
          have y1 : w'.cell? ⟨b11, 1, none⟩ = some (.int .i64 code) := hR2.out.b.cell 1
          have y2 : w'.cell? ⟨b11, 2, none⟩ = some (.int .i64 way) := hR2.out.b.cell 2
          have f1 := hR2.out.b.frz 1
          have f2 := hR2.out.b.frz 2
          clear hfc hR' hg2 hsz hlt hS
          by_cases hmj : ng < 2 * m
          · have hd : decide (2 * (m : Int) > (ng : Int)) = true := decide_eq_true (by omega)
            by_cases he : m = ng
            · have hq : ((m : Int) == ng) = true := by simp [he]
              have hnew : Hid (Go1 g (c :: S) c 1) := Lib.hid (by have := hhit.out (hmaj.out.2 hmj); rwa [if_pos he] at this)
              go_wp2
              have hR3 := Lib.hid (((hR2.out.set 1 (.int .i64 c)).set 2 (.int .i64 2)).set 2 (.int .i64 1))
              go_roundw
              case rel => exact ⟨c :: S, c, 1, hnew, hR3⟩
              case measure =>
                rw [((hR2.out.set 1 (.int .i64 c)).set 2 (.int .i64 2)).left, (hR2.out.set 1 (.int .i64 c)).left, hR2.out.left]
                exact hlt'.out
            · have hq : ((m : Int) == ng) = false := by simp; omega
              have hnew : Hid (Go1 g (c :: S) c 2) := Lib.hid (by have := hhit.out (hmaj.out.2 hmj); rwa [if_neg he] at this)
              go_wp2
              have hR3 := Lib.hid ((hR2.out.set 1 (.int .i64 c)).set 2 (.int .i64 2))
              go_roundw
              case rel => exact ⟨c :: S, c, 2, hnew, hR3⟩
              case measure =>
                rw [(hR2.out.set 1 (.int .i64 c)).left, hR2.out.left]
                exact hlt'.out
          · have hd : decide (2 * (m : Int) > (ng : Int)) = false := decide_eq_false (by omega)
            have hq : ((m : Int) == ng) = false := by simp; omega
            have hnew := Lib.hid (hmiss.out (fun h => hmj (hmaj.out.1 h)))
            go_wp2
            go_roundw
            case rel => exact ⟨c :: S, code, way, hnew, hR2⟩
            case measure => exact hlt'.out
end Go.Proofs.Ythnmglckhfajeaa
