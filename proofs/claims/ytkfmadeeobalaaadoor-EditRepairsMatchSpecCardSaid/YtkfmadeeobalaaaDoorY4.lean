/- The walk of the reference's Repairs. Conditions: the library's tables of blanks and of powers of ten read as they were laid. -/
import Derived.Test.YtkfmadeeobalaaaDoorI5
import Derived.Test.YtkfmadeeobalaaaDoorR2
import Derived.Deep.RegionHeld3
namespace Go.Proofs.YtkfmadeeobalaaaDoor
open Go.RowKit
set_option linter.unusedVariables false
/-- A list in the making, next to a box that is written. -/
structure OuB (w0 : World) (φ0 φ : Phi) (a : Option Addr) (c : Nat) (xs : List Rpr) (bd : Nat) (cs : Array Value) (W : World) : Prop where
  ou : OuSt w0 φ0 φ a c xs W
  k : Blk W bd cs 34
  f : φ bd = none
  l : w0.heap.size ≤ bd
  ne : ∀ x, a = some x → x.block ≠ bd
section
variable {w0 w w' : World} {φ0 φ φ' : Phi} {a : Option Addr} {c bd : Nat} {xs : List Rpr} {cs : Array Value}
theorem OuB.new' (h : OuSt w0 φ0 φ a c xs w) (hg : w.heap.size = bd) (cs : Array Value) : OuB w0 φ0 φ a c xs bd cs (w.alloc (.cells cs 34)) := by
  subst hg
  exact ⟨h.callB ((Below.refl _ _).alloc (Nat.le_refl _) _), Blk.new _ _ _, h.inv.fz.new_none (Nat.le_refl _), h.inv.size, fun x hx => by have := (h.o.lt x hx).2; omega⟩
theorem OuB.callB (h : OuB w0 φ0 φ a c xs bd cs w) (hb : Below w.heap.size w w') : OuB w0 φ0 φ a c xs bd cs w' := ⟨h.ou.callB hb, h.k.callB hb, h.f, h.l, h.ne⟩
theorem OuB.call (h : OuB w0 φ0 φ a c xs bd cs w) (hi : Inv w.heap.size w φ φ' w') : OuB w0 φ0 φ' a c xs bd cs w' := ⟨h.ou.call hi, h.k.callB hi.bel, (hi.new _ h.k.lt).trans h.f, h.l, h.ne⟩
theorem OuB.set (h : OuB w0 φ0 φ a c xs bd cs w) (j : Nat) (v : Value) : OuB w0 φ0 φ a c xs bd (cs.setIfInBounds j v) (w.setCell ⟨bd, j, none⟩ v) :=
  ⟨⟨h.ou.inv.setCell h.l h.f v, h.ou.o.other ⟨rfl, rfl, rfl, by simp [World.setCell], fun k _ hk => Below.heap_setCell _ _ _ _ (by intro e; exact hk (by rw [e]))⟩ (fun x hx e => h.ne x hx (Option.some.inj e))⟩, h.k.set j v, h.f, h.l, h.ne⟩
end
/-- A region whose ways end in one state, but for two slices and an address. -/
theorem wp_region_cut5 {P : Program} {id : Nat} {ops : Array Oper} {b : Bool} {Q : Exit → Act → World → Prop} {a : Act} {w : World} {fr : Nat → Option Addr → Nat → Option Addr → Nat → Act} (S : Nat → Option Addr → Nat → Option Addr → Nat → World → Prop) (h1 : (Code.region id ops b).wp P (OnlyN fun a' w' => ∃ x y z u v, a' = fr x y z u v ∧ S x y z u v w') a w) (h2 : ∀ x y z u v w, S x y z u v w → Q .normal (fr x y z u v) w) : (Code.region id ops b).wp P Q a w :=
  Code.wp_mono (fun e a w h => by
    cases e <;> first | exact h.elim | (obtain ⟨x, y, z, u, v, rfl, hs⟩ := (h : ∃ x y z u v, a = fr x y z u v ∧ S x y z u v w); exact h2 x y z u v w hs)) h1
theorem cell_alloc {w : World} {o : Obj} {a : Addr} {v : Value} (h : w.cell? a = some v) : (w.alloc o).cell? a = some v := (World.cell?_alloc_lt w o a (World.block_lt_of_cell? w a h)).trans h
theorem rimpR_some {fs : List Fld} {es : List Edt} {n m : Nat} {rec : List Int} {ds : List (List Int)} {seed : ByteArray} {f : List Int} {lw : Int} {bb : Bool} (h : leastS fs es n m rec = ((f, lw, true), bb)) :
    rimpR fs es n m rec ds seed = (((impR fs es n m rec f ds (shufF seed ds.length)).1, f, (impR fs es n m rec f ds (shufF seed ds.length)).2), true) := by
  unfold rimpR; rw [h]; rfl
set_option maxRecDepth 100000 in
set_option maxHeartbeats 4000000 in
theorem RRepairs_any
  (n : Nat) (a : Option Addr) (cap : Nat) (fs : List Fld) (m : Nat) (ae : Option Addr) (ce : Nat) (es : List Edt) (w : World) (φ : Phi) (hφ : Fz φ w) (ht : TabP φ) (hpw : PowP φ) (s : SlV φ a cap fs) (hn : Hid (fs.length = n)) (hm : n ≤ 9223372036854775807) (hg : Hid (∀ x ∈ fs, FldG x)) (se : SlV φ ae ce es) (hne : Hid (es.length = m)) (hme : m ≤ 9223372036854775807) (hge : Hid (∀ x ∈ es, EdtG x))
      (nl : Nat) (a2 : Option Addr) (c2 : Nat) (l : List (List Int)) (sl : SlV φ a2 c2 l) (hll : Hid (l.length = nl)) (hml : nl ≤ 9223372036854775807) (seed : ByteArray) (hsd : seed.size ≤ reachBytes)
    {F : Int} (hF : Hid (repsF fs es l seed = F)) {out : List Rpr} (ho : Hid (repsL fs es l seed F = out)) :
    Calls Tryd.prog 7 #[.agg #[.slice a n cap, .slice ae m ce], .slice a2 nl c2, .string seed] w (RepsPost out F φ w) := by
  obtain ⟨φ1, le1, i1, k1⟩ := (Inv.start hφ).frz (.cells #[.slice a n cap, .slice ae m ce] 25)
  have H0 := Lib.hid i1
  have LE1 := Lib.hid le1
  have HBX := Lib.hid (fun (φ' : Phi) (h : φ1.le φ') (w' : World) (hf : Fz φ' w') => (hf.blk (h _ _ k1)))
  have HNW := Lib.hid i1.new
  obtain ⟨P, hP⟩ : ∃ P, Hid (planF fs es = P) := ⟨_, Lib.hid rfl⟩
  have C0 := Lib.hid (RCheckPlan_any n a cap fs m ae ce es (w.alloc (.cells #[.slice a n cap, .slice ae m ce] 25)) φ1 i1.fz (ht.mono le1) (s.mono le1) hn hm hg (se.mono le1) hne hme hge hP)
  have HPW := Lib.hid (hpw.mono le1)
  have p0 : (w.alloc (.cells #[.slice a n cap, .slice ae m ce] 25)).cell? ⟨w.heap.size, 0, none⟩ = some (.slice a n cap) := box_at 0
  have p1 : (w.alloc (.cells #[.slice a n cap, .slice ae m ce] 25)).cell? ⟨w.heap.size, 1, none⟩ = some (.slice ae m ce) := box_at 1
  unfold reachBytes at hsd
  clear i1 k1 le1 ht hpw
  go_enter Tryd.func7, Tryd.ntmps7
  go_wp2_with fail
  clear p0 p1
  generalize hbp : w.heap.size = bp at *
  replace hbp := Lib.hid hbp
  refine C0.out.mono ?_
  rintro e w1 ⟨rfl, hb1⟩
  have H1 : Hid (Inv w.heap.size w φ φ1 w1) := Lib.hid (by rw [hbp.out]; exact H0.out.callB hb1)
  have HNW : Hid (∀ b, b < w.heap.size → φ1 b = φ b) := Lib.hid (by rw [hbp.out]; exact HNW.out)
  clear hb1 H0 C0
  by_cases hp : P = 0
  case neg =>
    have hpp : (P != 0) = true := by simp [hp]
    have HF : Hid (F = P) := Lib.hid (by rw [← hF.out, repsF, hP.out, if_pos hp])
    have HO : Hid (out = []) := Lib.hid (by rw [← ho.out, repsL, HF.out, if_neg hp])
    clear hp
    go_wp2
    go_ret2
    obtain rfl := HF.out
    obtain rfl := HO.out
    exact ⟨φ1, none, 0, rfl, H1.out, SlV.empty _⟩
  subst hp
  obtain ⟨lf, hlf⟩ : ∃ k, Hid (listF n l = k) := ⟨_, Lib.hid rfl⟩
  have hF2 := hF.out
  rw [repsF, if_neg (by rw [hP.out]; simp), hn.out, hlf.out, hll.out, hne.out] at hF2
  have HF0 := Lib.hid hF2
  have C1 := Lib.hid (RcheckRecords_any n a cap fs m ae ce es w1 φ1 H1.out.fz (s.mono LE1.out) (se.mono LE1.out) hn nl a2 c2 l (sl.mono LE1.out) hll hlf)
  clear hF hF2
  have p0 : w1.cell? ⟨bp, 0, none⟩ = some (.slice a n cap) := (HBX.out φ1 (Phi.le_refl _) w1 H1.out.fz).cell 0
  have p1 : w1.cell? ⟨bp, 1, none⟩ = some (.slice ae m ce) := (HBX.out φ1 (Phi.le_refl _) w1 H1.out.fz).cell 1
  by_cases hz : lf = 0
  case neg =>
    have hlb : (lf != 0) = true := by simp [hz]
    have HF : Hid (F = lf) := Lib.hid (by rw [← HF0.out, if_pos hz])
    have HO : Hid (out = []) := Lib.hid (by rw [← ho.out, repsL, HF.out, if_neg hz])
    clear hz
    go_wp2_with fail
    refine C1.out.mono ?_
    rintro e w2 ⟨rfl, hb2⟩
    have H2 := Lib.hid (H1.out.callB hb2)
    clear hb2
    go_wp2
    go_ret2
    obtain rfl := HF.out
    obtain rfl := HO.out
    exact ⟨φ1, none, 0, rfl, H2.out, SlV.empty _⟩
  subst hz
  obtain ⟨hd3, hdr⟩ := listF_zero hlf.out
  rw [hll.out] at hd3 hdr
  have HDR := Lib.hid hdr
  have hF2 := HF0.out
  rw [if_neg (by simp)] at hF2
  have HF1 := Lib.hid hF2
  have OK := Lib.hid (planF_zero hP.out)
  rw [hn.out, hne.out] at OK
  have h60 := OK.out.cnt
  obtain ⟨pq, hpq⟩ : ∃ q, Hid ((allR fs n).any (fun x => passB fs es x n m) = q) := ⟨_, Lib.hid rfl⟩
  rw [hpq.out] at HF1
  have hpos : Hid (posB fs es n m (List.replicate m true) = pq) := Lib.hid (by rw [← pass_all]; exact hpq.out)
  have HO1 : Hid (out = if F = 0 then (List.range nl).map (fun i => repI fs es n m l seed nl i) else []) := Lib.hid (by rw [← ho.out, repsL, hll.out, hn.out, hne.out])
  clear hdr hF2 HF0 ho hn hne
  go_wp2_with fail
  refine C1.out.mono ?_
  rintro e w2 ⟨rfl, hb2⟩
  have H2 := Lib.hid (H1.out.callB hb2)
  clear hb2 p0 p1 H1 C1
  have p1 : w2.cell? ⟨bp, 1, none⟩ = some (.slice ae m ce) := (HBX.out φ1 (Phi.le_refl _) w2 H2.out.fz).cell 1
  go_wp2_with (at_make; refine wpList_mkn (α := Bool) rfl _ _ 75 rfl slBo H2.out.toSelf _ _ m false (fun _ => rfl) rfl rfl rfl (by omega) ?_; intro w3 hi3 hown3 hg3)
  rw [← onB_nil] at hown3
  have HS : Hid (Inv w.heap.size w φ1 φ1 w3 ∧ Own w.heap.size φ1 w3 4 (some ⟨w2.heap.size, 0, none⟩) m (onB m 0)) := Lib.hid ⟨hi3, hown3⟩
  clear hi3 hown3 hg3 p1
  generalize hbf : w2.heap.size = bf at *
  clear hbf
  go_loopw [38] (fun i wr => ∃ k : Nat, k ≤ m ∧ i = .int .i64 k ∧ Hid (Inv w.heap.size w φ1 φ1 wr ∧ Own w.heap.size φ1 wr 4 (some ⟨bf, 0, none⟩) m (onB m k))) (fun i _ => m - (intOf i).toNat)
  case atStart => exact ⟨0, Nat.zero_le _, rfl, HS⟩
  case round =>
    clear HS
    obtain ⟨k, hk, rfl, hS⟩ := hrel
    by_cases hlt : k < m
    · obtain ⟨g, hg, hgl, fO⟩ := hS.out.2.boolsD (Lib.hid (onB_len m _)) hlt
      cases hg
      obtain ⟨d3, d4, hst⟩ := fO k hlt
      have HST := Lib.hid (hst true w φ1 hS.out.1)
      clear fO hst
      go_wp2
      go_roundw
      case rel => exact ⟨k + 1, by omega, by go_num, Lib.hid ⟨HST.out.2, by rw [← onB_step]; exact HST.out.1⟩⟩
      case measure => (simp [intOf] <;> omega)
    · obtain rfl : k = m := by omega
      obtain ⟨φ2, l12, i2, sL, _⟩ := hS.out.2.release hS.out.1
      rw [onB_all] at sL
      have H3 := Lib.hid i2
      have SL := Lib.hid sL
      have L12 := Lib.hid l12
      clear l12 i2 sL hS H2
      have HBX2 := Lib.hid (fun (φ' : Phi) (h : φ2.le φ') (w' : World) (hf : Fz φ' w') => HBX.out φ' (L12.out.trans h) w' hf)
      have HPW2 := Lib.hid (HPW.out.mono L12.out)
      have L02 := Lib.hid (LE1.out.trans L12.out)
      have sl2 := sl.mono L02.out
      by_cases hnl : nl = 0
      · subst hnl
        have hl0 : l = [] := List.eq_nil_of_length_eq_zero hll.out
        subst hl0
        have hgt : decide ((0 : Int) > 0) = false := by simp
        by_cases hs : 100 < seed.size
        · have HF : Hid (F = 2) := Lib.hid (by rw [← HF1.out, if_neg (by simp), if_pos hs])
          have HO : Hid (out = []) := Lib.hid (by rw [HO1.out, HF.out]; rfl)
          go_wp2
          go_ret2
          obtain rfl := HF.out
          obtain rfl := HO.out
          exact ⟨φ2, none, 0, rfl, (H3.out.cat' LE1.out HNW.out), SlV.empty _⟩
        · have HF : Hid (F = 0) := Lib.hid (by rw [← HF1.out, if_neg (by simp), if_neg hs])
          have HO : Hid (out = []) := Lib.hid (by rw [HO1.out, HF.out]; rfl)
          go_wp2
          go_loop [61] (fun i => i = .int .i64 0) (fun i => 0)
          case atStart => rfl
          case round =>
            obtain rfl := hrel
            go_wp2
            go_loop [16, 80] (fun v i => v = .slice none 0 0 ∧ i = .int .i64 0) (fun _ i => 0)
            case atStart => exact ⟨rfl, rfl⟩
            case round =>
              obtain ⟨rfl, rfl⟩ := hrel
              go_wp2
              go_ret2
              obtain rfl := HF.out
              obtain rfl := HO.out
              exact ⟨φ2, none, 0, rfl, (H3.out.cat' LE1.out HNW.out), SlV.empty _⟩
      have hgt : (0 : Int) < nl := by omega
      have hgtd : decide ((nl : Int) > 0) = true := by simp; omega
      have p0 : wr.cell? ⟨bp, 0, none⟩ = some (.slice a n cap) := (HBX2.out φ2 (Phi.le_refl _) wr H3.out.fz).cell 0
      have p1 : wr.cell? ⟨bp, 1, none⟩ = some (.slice ae k ce) := (HBX2.out φ2 (Phi.le_refl _) wr H3.out.fz).cell 1
      have C3 := Lib.hid (Rpossible_any n a cap fs k ae ce es OK wr φ2 H3.out.fz (s.mono L02.out) (se.mono L02.out) _ _ _ SL.out (Lib.hid (by simp)) hpos)
      cases pq with
      | false =>
        have HF : Hid (F = 9) := Lib.hid (by rw [← HF1.out, if_pos ⟨hnl, rfl⟩])
        have HO : Hid (out = []) := Lib.hid (by rw [HO1.out, HF.out]; rfl)
        go_wp2_with (go_at_call 31; refine C3.out.mono ?_; rintro e w4 ⟨rfl, hb4⟩)
        go_ret2
        obtain rfl := HF.out
        obtain rfl := HO.out
        exact ⟨φ2, none, 0, rfl, ((H3.out.callB hb4).cat' LE1.out HNW.out), SlV.empty _⟩
      | true =>
      by_cases hs : 100 < seed.size
      · have HF : Hid (F = 2) := Lib.hid (by rw [← HF1.out, if_neg (by simp), if_pos hs])
        have HO : Hid (out = []) := Lib.hid (by rw [HO1.out, HF.out]; rfl)
        go_wp2_with (go_at_call 31; refine C3.out.mono ?_; rintro e w4 ⟨rfl, hb4⟩)
        go_ret2
        obtain rfl := HF.out
        obtain rfl := HO.out
        exact ⟨φ2, none, 0, rfl, ((H3.out.callB hb4).cat' LE1.out HNW.out), SlV.empty _⟩
      have HF : Hid (F = 0) := Lib.hid (by rw [← HF1.out, if_neg (by simp), if_neg hs])
      have HO : Hid (out = (List.range nl).map (fun i => repI fs es n k l seed nl i)) := Lib.hid (by rw [HO1.out, HF.out, if_pos rfl])
      clear HF1 HO1 hpos hgtd
      go_wp2_with (go_at_call 31; refine C3.out.mono ?_; rintro e w4 ⟨rfl, hb4⟩)
      have HW : Hid (Ow2 w φ2 32 3 none 0 (donK fs es n k l 0) none 0 (numK fs es n k l 0) w4) := Lib.hid ⟨(H3.out.callB hb4).toSelf, Own.nil _ _ _ _, Own.nil _ _ _ _, fun _ _ _ h => by cases h⟩
      have HNW2 := Lib.hid (fun b (hb : b < w.heap.size) => (H3.out.new b hb).trans (HNW.out b hb))
      clear hb4 C3 p0 p1 H3
      generalize hkM : k = M at *
      clear hkM
      go_loopw [12, 13, 61] (fun v u i wr => ∃ (k : Nat) (a5 : Option Addr) (c5 : Nat) (a6 : Option Addr) (c6 : Nat), k ≤ nl ∧ v = .slice a5 (donK fs es n M l k).length c5 ∧ u = .slice a6 (numK fs es n M l k).length c6 ∧ i = .int .i64 k ∧ Hid (Ow2 w φ2 32 3 a5 c5 (donK fs es n M l k) a6 c6 (numK fs es n M l k) wr)) (fun _ _ i _ => nl - (intOf i).toNat)
      case atStart => exact ⟨0, none, 0, none, 0, Nat.zero_le _, rfl, rfl, rfl, HW⟩
      case round =>
        clear HW
        obtain ⟨k, a5, c5, a6, c6, hk, rfl, rfl, rfl, hS⟩ := hrel
        rename World => wr
        by_cases hlt : k < nl
        · obtain ⟨b3, o3, rfl, f3⟩ := sl2.lists hll hlt
          obtain ⟨a4, c4, s4, f3⟩ := f3 k hlt
          have d3 := (f3 wr hS.out.inv.fz).2
          have hxl : Hid ((l.getD k []).length = n) := Lib.hid (HDR.out k hlt)
          rw [hxl.out] at d3
          obtain ⟨pb, hpb⟩ : ∃ b, Hid (passB fs es (l.getD k []) n M = b) := ⟨_, Lib.hid rfl⟩
          have C3 := Lib.hid (Rpasses_any n a cap fs M ae ce es wr φ2 hS.out.inv.fz (s.mono L02.out) (se.mono L02.out) OK.out a4 c4 (l.getD k []) s4 hxl hpb)
          have HL1 := Lib.hid (donK_len (fs := fs) (es := es) (n := n) (m := M) (l := l) (k := k))
          have HL2 := Lib.hid (numK_le (fs := fs) (es := es) (n := n) (m := M) (l := l) (k := k))
          have p0 : wr.cell? ⟨bp, 0, none⟩ = some (.slice a n cap) := (HBX2.out φ2 (Phi.le_refl _) wr hS.out.inv.fz).cell 0
          have p1 : wr.cell? ⟨bp, 1, none⟩ = some (.slice ae M ce) := (HBX2.out φ2 (Phi.le_refl _) wr hS.out.inv.fz).cell 1
          clear f3
          cases pb with
          | false =>
            have H1 := Lib.hid (donK_f hpb.out)
            have H2 := Lib.hid (numK_f hpb.out)
            go_wp2_with (go_at_call 32; refine C3.out.mono ?_; rintro e w5 ⟨rfl, hb5⟩)
            go_roundw
            case rel => exact ⟨k + 1, a5, c5, a6, c6, by omega, by rw [H1.out], by rw [H2.out], by go_num, by rw [H1.out, H2.out]; exact Lib.hid (hS.out.callB hb5)⟩
            case measure => (simp [intOf] <;> omega)
          | true =>
            have H1 := Lib.hid (donK_t hpb.out)
            have H2 := Lib.hid (numK_t hpb.out)
            have S4 := Lib.hid s4
            generalize hx : l.getD k [] = x at *
            generalize hD : donK fs es n M l k = D at *
            generalize hU : numK fs es n M l k = U at *
            clear hx hD hU s4
            go_wp2_with (first
              | (go_at_call 32; refine C3.out.mono ?_; rintro e w5 ⟨rfl, hb5⟩; have HS5 := Lib.hid (hS.out.callB hb5); have hin := Lib.hid HS5.out.inv; have hon := Lib.hid HS5.out.o1; clear hb5)
              | (at_builtin; (refine wpList_app1F (α := List Int) rfl _ _ 26 rfl slLL hin.out a5 c5 _ hon.out _ _ x ⟨a4, c4, (by rw [hxl.out]), S4.out⟩ rfl 1 rfl (by have := HL1.out; omega) ?_; intro a8 c8 w8 hi8 ho8 hg8 hf8; have HS8 := Lib.hid ((HS5.out.alloc _).step1 hi8 ho8 hg8 hf8); have hin8 := Lib.hid HS8.out.inv; have hon8 := Lib.hid HS8.out.o2; clear hi8 ho8 hg8 hf8))
              | (at_builtin; (refine wpList_app1F (α := Int) rfl _ _ 32 rfl slI hin8.out a6 c6 _ hon8.out _ _ (k : Int) rfl rfl 1 rfl (by have := HL2.out; omega) ?_; intro a9 c9 w9 hi9 ho9 hg9 hf9)))
            go_roundw
            case rel => exact ⟨k + 1, a8, c8, a9, c9, by omega, by rw [H1.out, List.length_append]; rfl, by rw [H2.out, List.length_append]; rfl, by go_num, by rw [H1.out, H2.out]; exact Lib.hid (((HS8.out.alloc _).swap.step1 hi9 ho9 hg9 hf9).swap)⟩
            case measure => (simp [intOf] <;> omega)
        · obtain rfl : k = nl := by omega
          obtain ⟨φ3, l3, i3, sD, sU⟩ := hS.out.release
          have SD := Lib.hid sD
          have SU := Lib.hid sU
          have HLE := Lib.hid ((LE1.out.trans L12.out).trans l3)
          have L23 := Lib.hid l3
          have HNW3 := Lib.hid (fun b (hb : b < w.heap.size) => (i3.new b hb).trans (HNW2.out b hb))
          have HLU := Lib.hid (numK_len (fs := fs) (es := es) (n := n) (m := M) (l := l) (k := k))
          have HLD := Lib.hid (donK_len (fs := fs) (es := es) (n := n) (m := M) (l := l) (k := k))
          have HND := Lib.hid (fun j (hj : j < (donK fs es n M l k).length) => num_don hj)
          have HDL : Hid (∀ i, i < (donK fs es n M l k).length → ((donK fs es n M l k).getD i []).length = n) := Lib.hid (fun i hi => by
            obtain ⟨q, q1, _, q3, _⟩ := num_don hi
            rw [q3]; exact HDR.out q q1)
          have HW : Hid (OuSt w φ3 φ3 none 0 ((List.range 0).map (fun i => repI fs es n M l seed k i)) wr) := Lib.hid ⟨i3.toSelf, Own.nil _ _ _ _⟩
          clear hS l3 i3 sD sU
          go_wp2
          go_loopw [16, 80] (fun v i wr => ∃ (q : Nat) (φ' : Phi) (ao : Option Addr) (co : Nat), q ≤ k ∧ v = .slice ao q co ∧ i = .int .i64 q ∧ Hid (φ3.le φ' ∧ OuSt w φ3 φ' ao co ((List.range q).map (fun i => repI fs es n M l seed k i)) wr)) (fun _ i _ => k - (intOf i).toNat)
          case atStart => exact ⟨0, φ3, none, 0, Nat.zero_le _, rfl, rfl, Lib.hid ⟨φ3.le_refl, HW.out⟩⟩
          case round =>
            clear HW
            obtain ⟨q, φ4, ao, co, hq, rfl, rfl, hS⟩ := hrel
            rename World => wr
            by_cases hlt : q < k
            · have L34 := hS.out.1
              have L24 := Lib.hid (L23.out.trans L34)
              have L04 := Lib.hid (L02.out.trans L24.out)
              obtain ⟨b3, o3, rfl, f3⟩ := (sl2.mono L24.out).lists hll hlt
              obtain ⟨a4, c4, s4, f3⟩ := f3 q hlt
              have d3 := (f3 wr hS.out.2.inv.fz).2
              have hxl : Hid ((l.getD q []).length = n) := Lib.hid (HDR.out q hlt)
              rw [hxl.out] at d3
              obtain ⟨⟨⟨f, lw, fo⟩, bb⟩, hlq⟩ : ∃ s, Hid (leastS fs es n M (l.getD q []) = s) := ⟨_, Lib.hid rfl⟩
              have hfo := least_found (rec := l.getD q []) hpq.out
              rw [hlq.out] at hfo
              dsimp only at hfo
              subst hfo
              have hord : ∀ x ∈ shufF (seedI seed q) (donK fs es n M l k).length, 0 ≤ x ∧ x < ((donK fs es n M l k).length : Int) := shufF_rng _ _
              have HIO := Lib.hid (impR_ok OK.out hxl.out (f := f) (lw := lw) (by rw [hlq.out]) hord)
              have HRQ := Lib.hid (repI_eq (seed := seed) (N := k) hlq.out)
              have HRS := Lib.hid (rimpR_some (ds := donK fs es n M l k) (seed := seedI seed q) hlq.out)
              obtain ⟨iq, hiq⟩ : ∃ q', Hid (impR fs es n M (l.getD q []) f (donK fs es n M l k) (shufF (seedI seed q) (donK fs es n M l k).length) = q') := ⟨_, Lib.hid rfl⟩
              obtain ⟨nd, hnd⟩ : ∃ j, Hid ((donK fs es n M l k).length = j) := ⟨_, Lib.hid rfl⟩
              have hnd3 : nd ≤ 3000 := by have := HLD.out; rw [hnd.out] at this; omega
              rw [hiq.out] at HRQ HIO HRS
              rw [hnd.out] at HIO
              have HDL2 := Lib.hid HDL.out
              have HLU2 := Lib.hid HLU.out
              rw [hnd.out] at HDL2 HLU2
              have SD4 := Lib.hid (SD.out.mono L34)
              have SU4 := Lib.hid (SU.out.mono L34)
              have HPW4 := Lib.hid (HPW2.out.mono L24.out)
              have hq6 : q < 3000 := by omega
              have hsz : (seedI seed q).size ≤ 200 := by
                have h8 := itoaB_size (n := (q : Int)) (by omega) (by omega)
                show ((seed ++ (⟨#[46]⟩ : ByteArray)) ++ itoaB q).size ≤ 200
                rw [ByteArray.size_append, ByteArray.size_append]
                have : (⟨#[46]⟩ : ByteArray).size = 1 := rfl
                omega
              have HSZ := Lib.hid hsz
              have hI8 := itoaB_size (n := (q : Int)) (by omega) (by omega)
              have hg1 : ¬ 9223372036854775807 < seed.size + 1 := by omega
              have hg2 : ¬ 9223372036854775807 < seed.size + 1 + (itoaB (q : Int)).size := by omega
              have S4 := Lib.hid s4
              have HL4 := Lib.hid f3
              have hSd : Hid (OuSt w φ3 φ4 ao co ((List.range q).map (fun i => repI fs es n M l seed k i)) wr.drew) := Lib.hid (hS.out.2.callB (bdrewN (Below.refl wr.heap.size wr) 1))
              have p0 : wr.cell? ⟨bp, 0, none⟩ = some (.slice a n cap) := (HBX2.out φ4 L24.out wr hS.out.2.inv.fz).cell 0
              have p1 : wr.cell? ⟨bp, 1, none⟩ = some (.slice ae M ce) := (HBX2.out φ4 L24.out wr hS.out.2.inv.fz).cell 1
              have L34' := Lib.hid L34
              have HRS2 : Hid (rimpR fs es n M (l.getD q []) (donK fs es n M l k) ((seed ++ (⟨#[46]⟩ : ByteArray)) ++ itoaB (q : Int)) = ((iq.1, f, iq.2), true)) := Lib.hid HRS.out
              have HSZ2 : Hid (((seed ++ (⟨#[46]⟩ : ByteArray)) ++ itoaB (q : Int)).size ≤ 9223372036854775806) := Lib.hid (Nat.le_trans HSZ.out (by decide))
              clear f3 hord s4 hsz L34
              obtain ⟨nf, hnf⟩ : ∃ j, Hid (f.length = j) := ⟨_, Lib.hid rfl⟩
              have HIN : Hid (iq.1.length = n) := Lib.hid HIO.out.2.1
              have hq0 : -9223372036854775808 ≤ (q : Int) := by omega
              have hqm : (q : Int) ≤ 9223372036854775807 := by omega
              have hAd : Hid (OuB w φ3 φ4 ao co ((List.range q).map (fun i => repI fs es n M l seed k i)) wr.heap.size #[.slice none 0 0, .slice none 0 0, .int .i64 0] (wr.alloc (.cells #[.slice none 0 0, .slice none 0 0, .int .i64 0] 34)).drew) := Lib.hid ((OuB.new' hS.out.2 rfl _).callB (bdrewN (Below.refl _ _) 1))
              rw [hnd.out]
              go_wp2
              apply wp_region_cut5 (S := fun bd ar cr af cf W => ∃ φ7, Hid (φ4.le φ7 ∧ SlV φ7 ar cr iq.1 ∧ SlV φ7 af cf f ∧ OuB w φ3 φ7 ao co ((List.range q).map (fun i => repI fs es n M l seed k i)) bd #[.slice ar n cr, .slice af nf cf, .int .i64 iq.2] W))
              case h1 =>
                go_region_held3 (fun w' => w'.cell? ⟨bp, 0, none⟩ = some (.slice a n cap) ∧ w'.cell? ⟨bp, 1, none⟩ = some (.slice ae M ce)) (first | exact ⟨p0, p1⟩ | exact ⟨by assumption, by assumption⟩ | exact ⟨cell_alloc (by assumption), cell_alloc (by assumption)⟩) (first
                  | ((with_reducible refine (Itoa_any (q : Int) hq0 hqm wr.drew φ4 hSd.out.inv.fz HPW4.out).mono ?_); rintro e w5 ⟨rfl, hb5⟩; have hS5 := Lib.hid (hSd.out.callB hb5); have hA5 := Lib.hid (OuB.new' hS5.out rfl #[.slice none 0 0, .slice none 0 0, .int .i64 0]); have z0 : w5.cell? ⟨bp, 0, none⟩ = some (.slice a n cap) := (HBX2.out _ L24.out w5 hS5.out.inv.fz).cell 0; have z1 : w5.cell? ⟨bp, 1, none⟩ = some (.slice ae M ce) := (HBX2.out _ L24.out w5 hS5.out.inv.fz).cell 1; have hz0 := hA5.out.k.cell 0; clear hb5)
                  | ((with_reducible refine (Itoa_any (q : Int) hq0 hqm (wr.alloc (.cells #[.slice none 0 0, .slice none 0 0, .int .i64 0] 34)).drew φ4 hAd.out.ou.inv.fz HPW4.out).mono ?_); rintro e w5 ⟨rfl, hb5⟩; have hB5 := Lib.hid (hAd.out.callB hb5); have z0 : w5.cell? ⟨bp, 0, none⟩ = some (.slice a n cap) := (HBX2.out _ L24.out w5 hB5.out.ou.inv.fz).cell 0; have z1 : w5.cell? ⟨bp, 1, none⟩ = some (.slice ae M ce) := (HBX2.out _ L24.out w5 hB5.out.ou.inv.fz).cell 1; clear hb5)
                  | ((with_reducible refine (Rimpute_any n a cap fs M ae ce es OK w5 φ4 hS5.out.inv.fz (s.mono L04.out) (se.mono L04.out) a4 c4 (l.getD q []) S4.out hxl nd _ _ (donK fs es n M l k) SD4.out hnd hnd3 HDL2 ((seed ++ (⟨#[46]⟩ : ByteArray)) ++ itoaB (q : Int)) HSZ2.out HRS2).mono ?_); rintro e w7 ⟨φ7, ar, nr7, cr, af, nf7, cf, rfl, hi7, s7, s8, hl7, hl8⟩; obtain rfl : n = nr7 := HIN.out.symm.trans hl7; obtain rfl : nf = nf7 := hnf.out.symm.trans hl8; have H7 := Lib.hid (hS5.out.call hi7); have L47 := Lib.hid hi7.le; have S7 := Lib.hid s7; have S8 := Lib.hid s8; have t0 : w7.cell? ⟨bp, 0, none⟩ = some (.slice a n cap) := (HBX2.out _ (L24.out.trans hi7.le) w7 hi7.fz).cell 0; have t1 : w7.cell? ⟨bp, 1, none⟩ = some (.slice ae M ce) := (HBX2.out _ (L24.out.trans hi7.le) w7 hi7.fz).cell 1; clear hi7 s7 s8 hl7 hl8)
                  | ((with_reducible refine (Rimpute_any n a cap fs M ae ce es OK _ φ4 hA5.out.ou.inv.fz (s.mono L04.out) (se.mono L04.out) a4 c4 (l.getD q []) S4.out hxl nd _ _ (donK fs es n M l k) SD4.out hnd hnd3 HDL2 ((seed ++ (⟨#[46]⟩ : ByteArray)) ++ itoaB (q : Int)) HSZ2.out HRS2).mono ?_); rintro e w7 ⟨φ7, ar, nr7, cr, af, nf7, cf, rfl, hi7, s7, s8, hl7, hl8⟩; obtain rfl : n = nr7 := HIN.out.symm.trans hl7; obtain rfl : nf = nf7 := hnf.out.symm.trans hl8; have HB7 := Lib.hid (hA5.out.call hi7); have L47 := Lib.hid hi7.le; have S7 := Lib.hid s7; have S8 := Lib.hid s8; have t0 : w7.cell? ⟨bp, 0, none⟩ = some (.slice a n cap) := (HBX2.out _ (L24.out.trans hi7.le) w7 hi7.fz).cell 0; have t1 : w7.cell? ⟨bp, 1, none⟩ = some (.slice ae M ce) := (HBX2.out _ (L24.out.trans hi7.le) w7 hi7.fz).cell 1; have v0 := HB7.out.k.cell 0; have v1 := HB7.out.k.cell 1; have v2 := HB7.out.k.cell 2; have x0 := HB7.out.k.frz 0; have x1 := HB7.out.k.frz 1; have x2 := HB7.out.k.frz 2; have HC7 := Lib.hid (((HB7.out.set 0 (.slice ar n cr)).set 1 (.slice af nf cf)).set 2 (.int .i64 iq.2)); have k0 := (HBX2.out _ (L24.out.trans L47.out) _ HC7.out.ou.inv.fz).cell 0; have k1 := (HBX2.out _ (L24.out.trans L47.out) _ HC7.out.ou.inv.fz).cell 1; clear hi7 s7 s8 hl7 hl8)
                  | ((with_reducible refine (Rimpute_any n a cap fs M ae ce es OK w5 φ4 hB5.out.ou.inv.fz (s.mono L04.out) (se.mono L04.out) a4 c4 (l.getD q []) S4.out hxl nd _ _ (donK fs es n M l k) SD4.out hnd hnd3 HDL2 ((seed ++ (⟨#[46]⟩ : ByteArray)) ++ itoaB (q : Int)) HSZ2.out HRS2).mono ?_); rintro e w7 ⟨φ7, ar, nr7, cr, af, nf7, cf, rfl, hi7, s7, s8, hl7, hl8⟩; obtain rfl : n = nr7 := HIN.out.symm.trans hl7; obtain rfl : nf = nf7 := hnf.out.symm.trans hl8; have HB7 := Lib.hid (hB5.out.call hi7); have L47 := Lib.hid hi7.le; have S7 := Lib.hid s7; have S8 := Lib.hid s8; have t0 : w7.cell? ⟨bp, 0, none⟩ = some (.slice a n cap) := (HBX2.out _ (L24.out.trans hi7.le) w7 hi7.fz).cell 0; have t1 : w7.cell? ⟨bp, 1, none⟩ = some (.slice ae M ce) := (HBX2.out _ (L24.out.trans hi7.le) w7 hi7.fz).cell 1; have v0 := HB7.out.k.cell 0; have v1 := HB7.out.k.cell 1; have v2 := HB7.out.k.cell 2; have x0 := HB7.out.k.frz 0; have x1 := HB7.out.k.frz 1; have x2 := HB7.out.k.frz 2; have HC7 := Lib.hid (((HB7.out.set 0 (.slice ar n cr)).set 1 (.slice af nf cf)).set 2 (.int .i64 iq.2)); have k0 := (HBX2.out _ (L24.out.trans L47.out) _ HC7.out.ou.inv.fz).cell 0; have k1 := (HBX2.out _ (L24.out.trans L47.out) _ HC7.out.ou.inv.fz).cell 1; clear hi7 s7 s8 hl7 hl8))
                all_goals first
                  | (generalize hbd : w7.heap.size = bd; exact onlyN_mk ⟨bd, ar, cr, af, cf, by rfl, φ7, Lib.hid ⟨L47.out, S7.out, S8.out, OuB.new' H7.out hbd _⟩⟩)
                  | (generalize hbd : w5.heap.size = bd at HC7 ⊢; exact onlyN_mk ⟨bd, ar, cr, af, cf, by rfl, φ7, Lib.hid ⟨L47.out, S7.out, S8.out, HC7.out⟩⟩)
                  | (generalize hbd : wr.heap.size = bd at HC7 ⊢; exact onlyN_mk ⟨bd, ar, cr, af, cf, by rfl, φ7, Lib.hid ⟨L47.out, S7.out, S8.out, HC7.out⟩⟩)
              case h2 =>
              intro bd ar cr af cf W9 hW9
              obtain ⟨φ7, hW9⟩ := hW9
              have L37 := Lib.hid (L34'.out.trans hW9.out.1)
              have S7 := Lib.hid hW9.out.2.1
              have S8 := Lib.hid hW9.out.2.2.1
              have HB := Lib.hid hW9.out.2.2.2
              clear hW9 p0 p1 hSd hAd hS
              have y0 : W9.cell? ⟨bd, 0, none⟩ = some (.slice ar n cr) := HB.out.k.cell 0
              have y1 : W9.cell? ⟨bd, 1, none⟩ = some (.slice af nf cf) := HB.out.k.cell 1
              have y2 : W9.cell? ⟨bd, 2, none⟩ = some (.int .i64 iq.2) := HB.out.k.cell 2
              have x2 := HB.out.k.frz 2
              have HLQ : Hid (((List.range q).map (fun i => repI fs es n M l seed k i)).length = q) := Lib.hid (by simp)
              by_cases hneg : iq.2 < 0
              · have g1 : decide (iq.2 ≥ 0) = false := by simp; omega
                have HRR : Hid (repI fs es n M l seed k q = (iq.1, f, iq.2)) := Lib.hid (by have h := HRQ.out; rw [if_neg (by omega)] at h; exact h)
                have hin := Lib.hid HB.out.ou.inv
                have hon := Lib.hid HB.out.ou.o
                go_wp2_with (at_builtin; (refine wpList_app1F (α := Rpr) rfl _ _ 27 rfl slRp hin.out ao co _ hon.out _ _ (iq.1, f, iq.2) ⟨[.slice ar n cr], [.slice af nf cf, .int .i64 iq.2], rfl, ⟨ar, cr, by rw [HIN.out], S7.out⟩, [.slice af nf cf], [.int .i64 iq.2], rfl, ⟨af, cf, by rw [hnf.out], S8.out⟩, rfl⟩ (by rw [HLQ.out]; rfl) 1 (by first | rfl | exact congrArg (fun z => Value.slice (some ⟨z, 0, none⟩) 1 1) (alloc_size _ _).symm) (by rw [HLQ.out]; omega) ?_; intro a8 c8 w8 hi8 ho8 hg8 hf8))
                go_roundw
                case rel => exact ⟨q + 1, φ7, a8, c8, by omega, rfl, by go_num, by rw [outL_succ, HRR.out]; exact Lib.hid ⟨L37.out, hi8, ho8⟩⟩
                case measure => (simp [intOf] <;> omega)
              · obtain ⟨j, hj⟩ : ∃ j : Nat, iq.2 = j := ⟨iq.2.toNat, by omega⟩
                have hjn : j < nd := by have := HIO.out.2.2.2.1; omega
                have HRR : Hid (repI fs es n M l seed k q = (iq.1, f, (numK fs es n M l k).getD j 0)) := Lib.hid (by have h := HRQ.out; rw [if_pos (by omega), hj, show ((j : Int)).toNat = j by omega] at h; exact h)
                rw [hj] at y2 HB
                obtain ⟨bn, on, hun, fn⟩ := (SU.out.mono L37.out).intsD HLU2 hjn
                have dn := (fn j hjn W9 HB.out.ou.inv.fz).2
                subst hun
                have hjU : j < (numK fs es n M l k).length := by rw [HLU2.out]; exact hjn
                have hj0 : (0 : Int) ≤ j := by omega
                have hj3 : j < 3000 := by omega
                have hj := Lib.hid hj
                clear fn
                generalize (numK fs es n M l k).getD j 0 = nv at *
                have HC := Lib.hid (HB.out.set 2 (.int .i64 nv))
                have z0 : (W9.setCell ⟨bd, 2, none⟩ (.int .i64 nv)).cell? ⟨bd, 0, none⟩ = some (.slice ar n cr) := HC.out.k.cell 0
                have z1 : (W9.setCell ⟨bd, 2, none⟩ (.int .i64 nv)).cell? ⟨bd, 1, none⟩ = some (.slice af nf cf) := HC.out.k.cell 1
                have z2 : (W9.setCell ⟨bd, 2, none⟩ (.int .i64 nv)).cell? ⟨bd, 2, none⟩ = some (.int .i64 nv) := HC.out.k.cell 2
                have hin := Lib.hid HC.out.ou.inv
                have hon := Lib.hid HC.out.ou.o
                go_wp2_with (at_builtin; (refine wpList_app1F (α := Rpr) rfl _ _ 27 rfl slRp hin.out ao co _ hon.out _ _ (iq.1, f, nv) ⟨[.slice ar n cr], [.slice af nf cf, .int .i64 nv], rfl, ⟨ar, cr, by rw [HIN.out], S7.out⟩, [.slice af nf cf], [.int .i64 nv], rfl, ⟨af, cf, by rw [hnf.out], S8.out⟩, rfl⟩ (by rw [HLQ.out]; rfl) 1 (by first | rfl | exact congrArg (fun z => Value.slice (some ⟨z, 0, none⟩) 1 1) (by simp [World.setCell])) (by rw [HLQ.out]; omega) ?_; intro a8 c8 w8 hi8 ho8 hg8 hf8))
                go_roundw
                case rel => exact ⟨q + 1, φ7, a8, c8, by omega, rfl, by go_num, by rw [outL_succ, HRR.out]; exact Lib.hid ⟨L37.out, hi8, ho8⟩⟩
                case measure => (simp [intOf] <;> omega)
            · obtain rfl : q = k := by omega
              obtain ⟨φ9, l9, i9, s9, _⟩ := hS.out.2.o.release hS.out.2.inv
              have HI9 := Lib.hid i9
              have S9 := Lib.hid s9
              have HLN : Hid (((List.range q).map (fun i => repI fs es n M l seed q i)).length = q) := Lib.hid (by simp)
              clear l9 i9 s9 hS
              go_wp2
              go_ret2
              obtain rfl := HF.out
              obtain rfl := HO.out
              exact ⟨φ9, ao, co, congrArg (fun k => Ending.returned (.tuple #[.slice ao k co, .int .i64 0])) HLN.out.symm, HI9.out.cat' HLE.out HNW3.out, S9.out⟩
end Go.Proofs.YtkfmadeeobalaaaDoor
