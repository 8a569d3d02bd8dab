/- The walk of rulesOf. Conditions: none beyond what the claim form gives. -/
import Derived.Test.YtambgcijceecpaaDoorE6
namespace Go.Proofs.YtambgcijceecpaaDoor
open Go.RowKit
set_option linter.unusedVariables false

theorem rowne {a : Option Addr} {g : Nat} (h : ∀ y, a = some y → y.block ≠ g) : some g ≠ a.map (·.block) := by
  cases a with
  | none => simp
  | some y => simpa using (h y rfl).symm
/-- The state of rulesOf: its boxes so far, the box in the making, the block of the rules, the block of the plan. -/
structure RuSt (w0 : World) (φ0 φ : Phi) (bp br : Nat) (p q : Value) (ao : Option Addr) (co : Nat) (xs : List (List U32)) (al : Option Addr) (cl : Nat) (ys : List U32) (wr : World) : Prop where
  le : φ0.le φ
  new : ∀ b, b < w0.heap.size → φ b = φ0 b
  ow : Ow2 w0 φ 108 113 ao co xs al cl ys wr
  bx : Blk wr br #[p, q, .slice ao xs.length co] 69
  free : φ br = none
  lo : w0.heap.size ≤ br
  pl : Blk wr bp #[p, q] 25
  ne : bp ≠ br
  far1 : ∀ x, ao = some x → x.block ≠ br ∧ x.block ≠ bp
  far2 : ∀ x, al = some x → x.block ≠ br ∧ x.block ≠ bp
section
variable {w0 wr w' : World} {φ0 φ : Phi} {bp br : Nat} {p q : Value} {ao al : Option Addr} {co cl : Nat} {xs : List (List U32)} {ys : List U32}
theorem RuSt.callB (h : RuSt w0 φ0 φ bp br p q ao co xs al cl ys wr) (hb : Below wr.heap.size wr w') : RuSt w0 φ0 φ bp br p q ao co xs al cl ys w' :=
  ⟨h.le, h.new, h.ow.callB hb, h.bx.callB hb, h.free, h.lo, h.pl.callB hb, h.ne, h.far1, h.far2⟩
theorem RuSt.alloc (h : RuSt w0 φ0 φ bp br p q ao co xs al cl ys wr) (o : Obj) : RuSt w0 φ0 φ bp br p q ao co xs al cl ys (wr.alloc o) := h.callB ((Below.refl _ _).alloc (Nat.le_refl _) o)
theorem RuSt.fz (h : RuSt w0 φ0 φ bp br p q ao co xs al cl ys wr) : Fz φ0 wr := h.ow.inv.fz.sub h.le
theorem RuSt.in1 (h : RuSt w0 φ0 φ bp br p q ao co xs al cl ys wr) {o : Obj} {a' : Option Addr} {c' : Nat} {ys' : List U32} (hi : Inv w0.heap.size w0 φ φ w') (ho : Own w0.heap.size φ w' 113 a' c' ys') (hg : (wr.alloc o).grownBy w' (al.map (·.block))) (hf : ∀ x, a' = some x → al.map (·.block) = some x.block ∨ (wr.alloc o).heap.size ≤ x.block) : RuSt w0 φ0 φ bp br p q ao co xs a' c' ys' w' := by
  have k := h.alloc o
  refine ⟨h.le, h.new, (k.ow.swap.step1 hi ho hg hf).swap, (hg.block br k.bx.lt (rowne (fun y hy => (h.far2 y hy).1))).trans k.bx, h.free, h.lo, (hg.block bp k.pl.lt (rowne (fun y hy => (h.far2 y hy).2))).trans k.pl, h.ne, h.far1, fun x hx => ?_⟩
  have l1 := k.bx.lt
  have l2 := k.pl.lt
  rcases hf x hx with hh | hh
  · cases al with
    | none => cases hh
    | some z => have := h.far2 z rfl; simp at hh; omega
  · omega
/-- The box in the making is done. -/
theorem RuSt.seal (h : RuSt w0 φ0 φ bp br p q ao co xs al cl ys wr) : ∃ φ', RuSt w0 φ0 φ' bp br p q ao co xs none 0 [] wr ∧ SlV φ' al cl ys := by
  obtain ⟨φ1, l1, i1, s1, f1⟩ := h.ow.o2.release h.ow.inv
  refine ⟨φ1, ⟨h.le.trans l1, fun b hb => (i1.new b hb).trans (h.new b hb), ⟨⟨i1.bel, i1.base, i1.fz, φ1.le_refl, fun _ _ => rfl⟩, ?_, Own.nil _ _ _ _, fun _ _ _ h => by cases h⟩, h.bx, ?_, h.lo, h.pl, h.ne, h.far1, fun _ h => by cases h⟩, s1⟩
  · obtain ⟨⟨cells, hr, hl⟩, hfr⟩ := h.ow.o1
    refine ⟨⟨cells, hr, hl.mono l1⟩, fun y hy => ?_⟩
    rw [f1 _ (fun e => ?_)]
    · exact hfr y hy
    · cases al with
      | none => cases e
      | some z => exact h.ow.ne y z hy rfl (by simpa using e)
  · rw [f1 _ (rowne (fun y hy => (h.far2 y hy).1))]; exact h.free
theorem RuSt.fresh (h : RuSt w0 φ0 φ bp br p q ao co xs al cl ys wr) : RuSt w0 φ0 φ bp br p q ao co xs none 0 [] wr :=
  ⟨h.le, h.new, ⟨h.ow.inv, h.ow.o1, Own.nil _ _ _ _, fun _ _ _ h => by cases h⟩, h.bx, h.free, h.lo, h.pl, h.ne, h.far1, fun _ h => by cases h⟩
theorem RuSt.blk4 (h : RuSt w0 φ0 φ bp br p q ao co xs al cl ys wr) {o : Obj} (hg : (wr.alloc o).grownBy w' (ao.map (·.block))) : Blk w' br #[p, q, .slice ao xs.length co] 69 ∧ Blk w' bp #[p, q] 25 :=
  ⟨(hg.block br (h.alloc o).bx.lt (rowne (fun y hy => (h.far1 y hy).1))).trans (h.alloc o).bx, (hg.block bp (h.alloc o).pl.lt (rowne (fun y hy => (h.far1 y hy).2))).trans (h.alloc o).pl⟩
theorem RuSt.out1 (h : RuSt w0 φ0 φ bp br p q ao co xs none 0 [] wr) {o : Obj} {a' : Option Addr} {c' : Nat} {xs' : List (List U32)} (hi : Inv w0.heap.size w0 φ φ w') (ho : Own w0.heap.size φ w' 108 a' c' xs') (hg : (wr.alloc o).grownBy w' (ao.map (·.block))) (hf : ∀ x, a' = some x → ao.map (·.block) = some x.block ∨ (wr.alloc o).heap.size ≤ x.block) : RuSt w0 φ0 φ bp br p q a' c' xs' none 0 [] (w'.setCell ⟨br, 2, none⟩ (.slice a' xs'.length c')) := by
  have k := h.alloc o
  have l1 := k.bx.lt
  have l2 := k.pl.lt
  obtain ⟨b1, b2⟩ := h.blk4 hg
  have hfar : ∀ x, a' = some x → x.block ≠ br ∧ x.block ≠ bp := fun x hx => by
    rcases hf x hx with hh | hh
    · cases ao with
      | none => cases hh
      | some z => have := h.far1 z rfl; simp at hh; omega
    · omega
  have hgr : w'.grownBy (w'.setCell ⟨br, 2, none⟩ (.slice a' xs'.length c')) (some br) := ⟨rfl, rfl, rfl, by simp [World.setCell], fun k _ hk => Below.heap_setCell _ _ _ _ (by intro e; exact hk (by rw [e]))⟩
  exact ⟨h.le, h.new, ⟨hi.setCell h.lo h.free _, ho.other hgr (fun x hx e => (hfar x hx).1 (by cases e; rfl)), Own.nil _ _ _ _, fun _ _ _ h => by cases h⟩, b1.set 2 _, h.free, h.lo, b2.other (fun e => h.ne e.symm) _, h.ne, hfar, fun _ h => by cases h⟩
end
/-- Rules in the frozen heap. -/
def RulF (φ : Phi) (br : Nat) (fs : List Fld) (es : List Edt) : Prop :=
  ∃ a n cap ae m ce ab cb, φ br = some (.cells #[.slice a n cap, .slice ae m ce, .slice ab m cb] 69 (0, 0)) ∧ SlV φ a cap fs ∧ fs.length = n ∧ SlV φ ae ce es ∧ es.length = m ∧ SlV φ ab cb (boxes fs es m)
def RulPost (fs : List Fld) (es : List Edt) (φ : Phi) (w : World) (e : Ending) (w' : World) : Prop :=
  ∃ φ', Inv w.heap.size w φ φ' w' ∧ ((planF fs es ≠ 0 ∧ e = .returned (.tuple #[.pointer none, .int .i64 (planF fs es)])) ∨ (planF fs es = 0 ∧ ∃ br, e = .returned (.tuple #[.pointer (some ⟨br, 0, none⟩), .int .i64 0]) ∧ RulF φ' br fs es))
theorem RuSt.fin {w0 wr : World} {φ0 φ : Phi} {bp br n m cap ce : Nat} {a ae : Option Addr} {ao al : Option Addr} {co cl : Nat} {ys : List U32} {fs : List Fld} {es : List Edt}
    (h : RuSt w0 φ0 φ bp br (.slice a n cap) (.slice ae m ce) ao co (boxes fs es m) al cl ys wr) (s : SlV φ0 a cap fs) (hn : fs.length = n) (se : SlV φ0 ae ce es) (hm : es.length = m) : ∃ φ', Inv w0.heap.size w0 φ0 φ' wr ∧ RulF φ' br fs es := by
  obtain ⟨φ1, l1, i1, s1, f1⟩ := h.ow.o1.release h.ow.inv
  have hf : φ1 br = none := by rw [f1 _ (rowne (fun y hy => (h.far1 y hy).1))]; exact h.free
  have hb := h.bx
  rw [boxes_len] at hb
  have l2 := φ1.le_upd br (.cells #[.slice a n cap, .slice ae m ce, .slice ao m co] 69 (0, 0)) hf
  have lo := h.lo
  refine ⟨φ1.upd br (.cells #[.slice a n cap, .slice ae m ce, .slice ao m co] 69 (0, 0)), ⟨i1.bel, i1.base, i1.fz.upd hb, (h.le.trans l1).trans l2, fun b hb => ?_⟩, a, n, cap, ae, m, ce, ao, co, ?_, s.mono ((h.le.trans l1).trans l2), hn, se.mono ((h.le.trans l1).trans l2), hm, s1.mono l2⟩
  · unfold Phi.upd; rw [if_neg (by omega)]; exact (i1.new b hb).trans (h.new b hb)
  · unfold Phi.upd; rw [if_pos rfl]
set_option maxRecDepth 100000 in
set_option maxHeartbeats 2000000 in
theorem rulesOf_any (n : Nat) (a : Option Addr) (cap : Nat) (fs : List Fld) (m : Nat) (ae : Option Addr) (ce : Nat) (es : List Edt) (w : World) (φ : Phi) (hφ : Fz φ w) (s : SlV φ a cap fs) (hn : Hid (fs.length = n)) (hm : n ≤ 9223372036854775807) (hg : Hid (∀ x ∈ fs, FldG x)) (se : SlV φ ae ce es) (hne : Hid (es.length = m)) (hme : m ≤ 9223372036854775807) (hge : Hid (∀ x ∈ es, EdtG x)) :
    Calls Tryd.prog 40 #[.agg #[.slice a n cap, .slice ae m ce]] w (RulPost fs es φ w) := by
  have hB0 := Lib.hid (Blk.new w #[.slice a n cap, .slice ae m ce] 25)
  have hb0 : Hid (Inv w.heap.size w φ φ (w.alloc (.cells #[.slice a n cap, .slice ae m ce] 25))) := Lib.hid ((Inv.start hφ).alloc _)
  go_enter Tryd.func40, Tryd.ntmps40
  go_wp2_with fail
  refine (CheckPlan_any n a cap fs m ae ce es _ φ (hφ.alloc _) s hn hm hg se hne hme hge).mono ?_
  rintro e w1 ⟨rfl, hb1⟩
  obtain ⟨q, hq⟩ : ∃ q, Hid (planF fs es = q) := ⟨_, Lib.hid rfl⟩
  rw [hq.out]
  have HB := Lib.hid (hb0.out.callB hb1)
  have HX := Lib.hid (hB0.out.callB hb1)
  clear hb1 hB0 hb0
  by_cases h0 : q = 0
  case neg =>
    have hgg : ((q : Int) != 0) = true := by simp [h0]
    have H0 := Lib.hid h0
    clear h0
    go_wp2
    go_ret2
    exact ⟨φ, HB.out, .inl ⟨by rw [hq.out]; exact H0.out, by rw [hq.out]; rfl⟩⟩
  subst h0
  have OK := Lib.hid (planF_zero hq.out)
  rw [hn.out, hne.out] at OK
  have hn12 := OK.out.pos
  have hm60 := OK.out.cnt
  have p0 : w1.cell? ⟨w.heap.size, 0, none⟩ = some (.slice a n cap) := HX.out.cell 0
  have p1 : w1.cell? ⟨w.heap.size, 1, none⟩ = some (.slice ae m ce) := HX.out.cell 1
  have p1' : (w1.alloc (.cells #[.slice a n cap, .slice ae m ce, .slice none 0 0] 69)).cell? ⟨w.heap.size, 1, none⟩ = some (.slice ae m ce) := (HX.out.alloc _).cell 1
  have hSt : Hid (RuSt w φ φ w.heap.size w1.heap.size (.slice a n cap) (.slice ae m ce) none 0 (boxes fs es 0) none 0 [] (w1.alloc (.cells #[.slice a n cap, .slice ae m ce, .slice none 0 0] 69))) :=
    Lib.hid ⟨φ.le_refl, fun _ _ => rfl, ⟨HB.out.alloc _, Own.nil _ _ _ _, Own.nil _ _ _ _, (fun _ _ h => by cases h)⟩, Blk.new w1 _ _, by
      cases hφ1 : φ w1.heap.size with
      | none => rfl
      | some ob => have := HB.out.fz.mlt hφ1; omega, HB.out.size, HX.out.alloc _, by have := HX.out.lt; omega, (fun _ h => by cases h), (fun _ h => by cases h)⟩
  go_wp2
  clear p0 p1 p1'
  generalize w1.alloc (.cells #[.slice a n cap, .slice ae m ce, .slice none 0 0] 69) = wm at *
  generalize w1.heap.size = br at *
  generalize hbp : w.heap.size = bp at *
  replace hbp := Lib.hid hbp
  clear HB HX
  go_loopw [25] (fun i wr => ∃ (k : Nat) (φ' : Phi) (ao : Option Addr) (co : Nat), k ≤ m ∧ i = .int .i64 k ∧ Hid (RuSt w φ φ' bp br (.slice a n cap) (.slice ae m ce) ao co (boxes fs es k) none 0 [] wr)) (fun i _ => m - (intOf i).toNat)
  case atStart => exact ⟨0, φ, none, 0, Nat.zero_le _, rfl, hSt⟩
  case round =>
    clear hSt
    obtain ⟨k, φ', ao, co, hk, rfl, hS⟩ := hrel
    by_cases hlt : k < m
    · obtain ⟨b, off, rfl, f⟩ := se.edtD hne hlt
      obtain ⟨ac, cc, sk, f⟩ := f k hlt
      obtain ⟨hb, c1, c2⟩ := f wr hS.out.fz
      have hss := Lib.hid (OK.out.edt k hlt)
      have hbs := Lib.hid (boxes_succ fs es k)
      clear f
      generalize hX : es.getD k edt0 = X at *
      obtain ⟨nm, ss⟩ := X
      replace hX := Lib.hid hX
      dsimp only at c1 c2 sk
      replace hss : Hid (ss.length = n ∧ ∀ j, j < n → setF (ss.getD j []) (fs.getD j fld0).2.1 = 0) := hss
      have hns : Hid (ss.length = n) := Lib.hid hss.out.1
      have hcap := sk.capn
      have hcm := sk.capm
      unfold maxLen at hcm
      rw [hns.out] at c2 hcap
      have hS1 := Lib.hid (hS.out.alloc (.cells #[.string nm, .slice ac n cc] 95))
      have b1 : (wr.alloc (.cells #[.string nm, .slice ac n cc] 95)).cell? ⟨wr.heap.size, 1, none⟩ = some (.slice ac n cc) := box_at 1
      go_wp2
      clear b1 c1 c2 hb
      generalize wr.alloc (.cells #[.string nm, .slice ac n cc] 95) = wy at *
      generalize wr.heap.size = bx at *
      go_loopw [8, 32] (fun sl i wr => ∃ (j : Nat) (al : Option Addr) (cl : Nat), j ≤ n ∧ sl = .slice al (boxK fs ss j).length cl ∧ i = .int .i64 j ∧ Hid (RuSt w φ φ' bp br (.slice a n cap) (.slice (some ⟨b, off, none⟩) m ce) ao co (boxes fs es k) al cl (boxK fs ss j) wr)) (fun _ i _ => n - (intOf i).toNat)
      case atStart => exact ⟨0, none, 0, Nat.zero_le _, rfl, rfl, hS1⟩
      case round =>
        clear hS1 hS
        obtain ⟨j, al, cl, hj, rfl, rfl, hS2⟩ := hrel
        by_cases hjl : j < n
        · obtain ⟨bs, os, rfl, fS⟩ := sk.lists hns hjl
          obtain ⟨a1, c1', sj, fS⟩ := fS j hjl
          have y1 := (fS wr hS2.out.fz).2
          obtain ⟨bf, of_, hab, fF⟩ := s.fldD hn hjl
          obtain ⟨a2, c2', sf, fF⟩ := fF j hjl
          have y2 := (fF wr hS2.out.fz).2.2.1
          have pl0 : wr.cell? ⟨bp, 0, none⟩ = some (.slice a n cap) := hS2.out.pl.cell 0
          have hbk := Lib.hid (boxK_succ fs ss j)
          have hbl := Lib.hid (boxK_len fs ss j)
          have hF := Lib.hid hS2.out.fz
          have hsz := Lib.hid (setF_zero (hss.out.2 j hjl))
          have hcl := (fieldF_zero (fldBad_zero (OK.out.fld j hjl)).2.2).2.1
          subst hab
          clear fS fF
          generalize ss.getD j [] = st at *
          generalize (fs.getD j fld0).2.1 = cd at *
          obtain ⟨n1, hn1⟩ : ∃ n1, Hid (st.length = n1) := ⟨_, Lib.hid rfl⟩
          obtain ⟨n2, hn2⟩ : ∃ n2, Hid (cd.length = n2) := ⟨_, Lib.hid rfl⟩
          rw [hn1.out] at y1
          rw [hn2.out] at y2
          have e1 := sj.capn
          have e2 := sj.capm
          have e3 := sf.capn
          have e4 := sf.capm
          rw [hn1.out] at e1
          rw [hn2.out] at e3
          unfold maxLen at e2 e4
          have hcl20 : Hid (cd.length ≤ 20) := Lib.hid hcl
          clear hcl
          go_wp2
          clear y1
          go_loop [11, 39] (fun bb i => ∃ q : Nat, q ≤ n1 ∧ bb = .int .u32 ((bitK cd st q : Nat) : Int) ∧ i = .int .i64 q) (fun _ i => n1 - (intOf i).toNat)
          case atStart => exact ⟨0, Nat.zero_le _, rfl, rfl⟩
          case round =>
            obtain ⟨q, hq1, rfl, rfl⟩ := hrel
            by_cases hql : q < n1
            · obtain ⟨bt, ot, rfl, fT⟩ := sj.intsD hn1 hql
              have z1 := (fT q hql wr hF.out).2
              have hmem := Lib.hid (hsz.out.2 q (by rw [hn1.out]; exact hql))
              have hbit := Lib.hid (bitK_lt hcl20.out (k := q) (fun i hi => hsz.out.2 i (by rw [hn1.out]; omega)))
              have hbs2 : Hid (bitK cd st (q + 1) = bitK cd st q ||| 2 ^ cd.idxOf (st.getD q 0)) := Lib.hid rfl
              clear fT
              generalize st.getD q 0 = x at *
              have hix : Hid (idI cd x = ((cd.idxOf x : Nat) : Int)) := Lib.hid (by rw [idI, if_pos hmem.out])
              have hi20 : cd.idxOf x < 20 := Nat.lt_of_lt_of_le (List.idxOf_lt_length_of_mem hmem.out) hcl20.out
              generalize cd.idxOf x = ix at *
              have hpw : 2 ^ ix < 4294967296 := Nat.lt_of_lt_of_le (Nat.pow_lt_pow_right (by decide) hi20) (by decide)
              have hor := Lib.hid (bits_or32 (x := bitK cd st q) (k := ix) (by have := hbit.out; omega) (by omega))
              go_wp2_with fail
              refine (Index_ex n2 a2 c2' cd x wr φ hF.out sf hn2 (by omega) hix.out).mono ?_
              rintro e w' ⟨rfl, rfl⟩
              go_wp2
              go_round
              case rel => exact ⟨q + 1, by omega, by rw [hbs2.out]; exact congrArg (Value.int .u32) hor.out, by go_num⟩
              case measure => simp [intOf]; omega
            · obtain rfl : q = n1 := by omega
              have hin := Lib.hid hS2.out.ow.inv
              have hon := Lib.hid hS2.out.ow.o2
              go_wp2_with (at_builtin; refine wpList_app1F (α := U32) rfl _ _ 108 rfl slU hin.out al cl _ hon.out _ _ ⟨bitK cd st q⟩ rfl rfl 1 rfl (by have := hbl.out; omega) ?_; intro a3 c3 w4 hi4 ho4 hg4 hf4)
              go_roundw
              case rel => exact ⟨j + 1, a3, c3, by omega, by rw [hbk.out, hn1.out]; simp, by go_num, by rw [hbk.out, hn1.out]; exact Lib.hid (hS2.out.in1 hi4 ho4 hg4 hf4)⟩
              case measure => simp [intOf]; omega
        · obtain rfl : j = n := by omega
          obtain ⟨φ2, hS3, hsl⟩ := hS2.out.seal
          have hS3 := Lib.hid hS3
          have hsl := Lib.hid hsl
          have r2 : wr.cell? ⟨br, 2, none⟩ = some (.slice ao (boxes fs es k).length co) := hS3.out.bx.cell 2
          have hbl := Lib.hid (boxes_len fs es k)
          go_wp2_with (at_builtin; refine wpList_app1F (α := List U32) rfl _ _ 67 rfl slB hS3.out.ow.inv ao co _ hS3.out.ow.o1 _ _ (boxK fs ss j) ⟨al, cl, rfl, hsl.out⟩ rfl 1 rfl (by have := hbl.out; omega) ?_; intro a3 c3 w4 hi4 ho4 hg4 hf4; have kf : w4.frozen? ⟨br, 2, none⟩ = false := (hS3.out.blk4 hg4).1.frz 2; have kc : w4.cell? ⟨br, 2, none⟩ = some (.slice ao (boxes fs es k).length co) := (hS3.out.blk4 hg4).1.cell 2)
          go_roundw
          case rel =>
            refine ⟨k + 1, φ2, a3, c3, by omega, by go_num, Lib.hid ?_⟩
            rw [hbs.out, hns.out]
            have := hS3.out.out1 hi4 ho4 hg4 hf4
            rw [List.length_append] at this
            exact this
          case measure => simp [intOf]; omega
    · obtain rfl : k = m := by omega
      go_wp2
      go_ret2
      obtain ⟨φ2, h1, h2⟩ := hS.out.fin s hn.out se hne.out
      exact ⟨φ2, h1, .inr ⟨hq.out, br, rfl, h2⟩⟩
end Go.Proofs.YtambgcijceecpaaDoor
