/- The walk of the reference's all. The walks of the reference's possible and needed. The walks of the reference's Redundant and Clash. Conditions: the library's table of blanks reads as it was laid. Conditions: none beyond what the claim form gives. -/
import Derived.Test.YtkfmadeeobalaaaDoorQC
import Derived.OwnWalk
namespace Go.Proofs.YtkfmadeeobalaaaDoor
open Go.RowKit
set_option linter.unusedVariables false
/-- Every list of codes for the first f fields. -/
def allQ (fs : List Fld) : Nat → List (List Int)
  | 0 => [[]]
  | f + 1 => (allQ fs f).flatMap (fun p => (fs.getD f fld0).2.1.map (fun c => p ++ [c]))
theorem allQ_len (fs : List Fld) : ∀ f, (allQ fs f).length = prodK fs f
  | 0 => rfl
  | f + 1 => by
    rw [allQ, prodK, ← allQ_len fs f]
    generalize allQ fs f = l
    induction l with
    | nil => simp
    | cons x l ih => rw [List.flatMap_cons, List.length_append, ih, List.length_map, List.length_cons, Nat.add_mul, Nat.one_mul, Nat.add_comm]
theorem allQ_row (fs : List Fld) : ∀ f, ∀ p ∈ allQ fs f, p.length = f
  | 0, p, h => by rw [allQ, List.mem_singleton] at h; rw [h]; rfl
  | f + 1, p, h => by
    rw [allQ, List.mem_flatMap] at h
    obtain ⟨q, hq, h⟩ := h
    obtain ⟨c, _, rfl⟩ := List.mem_map.1 h
    rw [List.length_append, allQ_row fs f q hq]; rfl
theorem allQ_comps (fs : List Fld) (n : Nat) : ∀ r f, f + r = n → (allQ fs f).flatMap (fun p => comps fs (List.replicate n true) r f (p ++ List.replicate r 0)) = allQ fs n
  | 0, f, h => by
    have e : f = n := h
    subst e
    simp only [comps, List.replicate_zero, List.append_nil]
    exact List.flatMap_singleton' _
  | r + 1, f, h => by
    rw [← allQ_comps fs n r (f + 1) (by omega), allQ, List.flatMap_assoc]
    apply flatMap_congr2
    intro p hp
    have hl := allQ_row fs f p hp
    have ht : (List.replicate n true).getD f false = true := by simp [List.getD_eq_getElem?_getD, show f < n by omega]
    rw [comps, if_pos ht, List.flatMap_map]
    apply flatMap_congr2
    intro c _
    congr 1
    rw [List.replicate_succ, ← hl, List.set_append_right _ _ (Nat.le_refl _), Nat.sub_self, List.set_cons_zero, List.append_assoc]
    rfl
where
  flatMap_congr2 {α β : Type} {l : List α} {f g : α → List β} (h : ∀ x ∈ l, f x = g x) : l.flatMap f = l.flatMap g := by
    induction l with
    | nil => rfl
    | cons x l ih => rw [List.flatMap_cons, List.flatMap_cons, h x (by simp), ih (fun y hy => h y (by simp [hy]))]
theorem allQ_all (fs : List Fld) (n : Nat) : allQ fs n = allR fs n := by
  have := allQ_comps fs n n 0 (by omega)
  rw [← this, allQ, List.flatMap_cons, List.flatMap_nil, List.append_nil, List.nil_append]
  rfl
/-- The rows made of the first j rows, and of i codes behind row j. -/
def partK (cur : List (List Int)) (cds : List Int) (j : Nat) : List (List Int) := (cur.take j).flatMap (fun p => cds.map (fun c => p ++ [c]))
def partI (cur : List (List Int)) (cds : List Int) (j i : Nat) : List (List Int) := partK cur cds j ++ (cds.take i).map (fun c => cur.getD j [] ++ [c])
section
variable {cur : List (List Int)} {cds : List Int} {j i : Nat}
theorem partI_zero : partI cur cds j 0 = partK cur cds j := by simp [partI]
theorem take_getD2 {α : Type} {l : List α} {k : Nat} {d : α} (h : k < l.length) : l.take (k + 1) = l.take k ++ [l.getD k d] := by
  rw [List.take_add_one, List.getElem?_eq_getElem h, List.getD_eq_getElem?_getD, List.getElem?_eq_getElem h]; rfl
theorem partI_succ (h : i < cds.length) : partI cur cds j (i + 1) = partI cur cds j i ++ [cur.getD j [] ++ [cds.getD i 0]] := by
  unfold partI
  rw [take_getD2 (d := 0) h, List.map_append, List.append_assoc]; rfl
theorem partI_full (h : j < cur.length) : partI cur cds j cds.length = partK cur cds (j + 1) := by
  unfold partI partK
  rw [take_getD2 (d := []) h, List.flatMap_append, List.take_length, List.flatMap_cons, List.flatMap_nil, List.append_nil]
theorem partK_len (h : j ≤ cur.length) : (partK cur cds j).length = j * cds.length := by
  induction j with
  | zero => simp [partK]
  | succ j ih => rw [← partI_full (by omega), partI, List.length_append, ih (by omega), List.length_map, List.take_length, Nat.add_mul, Nat.one_mul]
theorem partI_len (h : j ≤ cur.length) (hi : i ≤ cds.length) : (partI cur cds j i).length = j * cds.length + i := by
  rw [partI, List.length_append, partK_len h, List.length_map, List.length_take]; omega
end
theorem partK_all {fs : List Fld} {k : Nat} : partK (allQ fs k) (fs.getD k fld0).2.1 (allQ fs k).length = allQ fs (k + 1) := by
  unfold partK; rw [List.take_length]; rfl
/-- The state of all: the rows so far, the row in the making, all over what is frozen. -/
structure AlSt (w0 : World) (φ0 φc φ : Phi) (ao : Option Addr) (co : Nat) (xs : List (List Int)) (al : Option Addr) (cl : Nat) (ys : List Int) (wr : World) : Prop where
  le0 : φ0.le φ
  le : φc.le φ
  new : ∀ b, b < w0.heap.size → φ b = φ0 b
  ow : Ow2 w0 φ 32 3 ao co xs al cl ys wr
section
variable {w0 wr w' : World} {φ0 φc φ : Phi} {ao al : Option Addr} {co cl : Nat} {xs : List (List Int)} {ys : List Int}
theorem AlSt.fz (h : AlSt w0 φ0 φc φ ao co xs al cl ys wr) : Fz φc wr := h.ow.inv.fz.sub h.le
theorem AlSt.start (h : Inv w0.heap.size w0 φ0 φc wr) : AlSt w0 φ0 φc φc none 0 [] none 0 [] wr := ⟨h.le, φc.le_refl, h.new, h.toSelf, Own.nil _ _ _ _, Own.nil _ _ _ _, fun _ _ _ h => by cases h⟩
theorem AlSt.clone (h : AlSt w0 φ0 φc φ ao co xs none 0 [] wr) (hi : Inv wr.heap.size wr φ φ w') (ho : Own wr.heap.size φ w' 3 al cl ys) : AlSt w0 φ0 φc φ ao co xs al cl ys w' := by
  refine ⟨h.le0, h.le, h.new, h.ow.inv.callB hi.bel, h.ow.o1.callB hi.bel, ho.base h.ow.inv.size, fun x y hx hy e => ?_⟩
  have h1 := (h.ow.o1.lt x hx).2
  have h2 := (ho.lt y hy).1
  omega
theorem AlSt.in2 (h : AlSt w0 φ0 φc φ ao co xs al cl ys wr) {o : Obj} {a' : Option Addr} {c' : Nat} {ys' : List Int} (hi : Inv w0.heap.size w0 φ φ w') (ho : Own w0.heap.size φ w' 3 a' c' ys') (hg : (wr.alloc o).grownBy w' (al.map (·.block))) (hf : ∀ x, a' = some x → al.map (·.block) = some x.block ∨ (wr.alloc o).heap.size ≤ x.block) : AlSt w0 φ0 φc φ ao co xs a' c' ys' w' :=
  ⟨h.le0, h.le, h.new, ((h.ow.alloc o).swap.step1 hi ho hg hf).swap⟩
theorem AlSt.frozen2 (h : AlSt w0 φ0 φc φ ao co xs al cl ys wr) : ∃ φ', AlSt w0 φ0 φc φ' ao co xs none 0 [] wr ∧ SlV φ' al cl ys := by
  obtain ⟨φ1, l1, n1, i1, o1, s1⟩ := h.ow.rel2
  exact ⟨φ1, ⟨h.le0.trans l1, h.le.trans l1, fun b hb => (n1 b hb).trans (h.new b hb), ⟨i1, o1, Own.nil _ _ _ _, fun _ _ _ h => by cases h⟩⟩, s1⟩
theorem AlSt.in1 (h : AlSt w0 φ0 φc φ ao co xs none 0 [] wr) {a' : Option Addr} {c' : Nat} {xs' : List (List Int)} (hi : Inv w0.heap.size w0 φ φ w') (ho : Own w0.heap.size φ w' 32 a' c' xs') : AlSt w0 φ0 φc φ a' c' xs' none 0 [] w' :=
  ⟨h.le0, h.le, h.new, ⟨hi, ho, Own.nil _ _ _ _, fun _ _ _ h => by cases h⟩⟩
theorem AlSt.fin (h : AlSt w0 φ0 φc φ ao co xs none 0 [] wr) : ∃ φ', φc.le φ' ∧ Inv w0.heap.size w0 φ0 φ' wr ∧ SlV φ' ao co xs := by
  obtain ⟨φ1, l1, i1, s1, _⟩ := h.ow.o1.release h.ow.inv
  exact ⟨φ1, h.le.trans l1, ⟨i1.bel, i1.base, i1.fz, h.le0.trans l1, fun b hb => (i1.new b hb).trans (h.new b hb)⟩, s1⟩
end
def RowsPost (xs : List (List Int)) (φ : Phi) (w : World) (e : Ending) (w' : World) : Prop :=
  ∃ a cap φ', e = .returned (.slice a xs.length cap) ∧ Inv w.heap.size w φ φ' w' ∧ SlV φ' a cap xs
set_option maxRecDepth 100000 in
set_option maxHeartbeats 2000000 in
theorem Rall_any
  (n : Nat) (a : Option Addr) (cap : Nat) (fs : List Fld) (m : Nat) (ae : Option Addr) (ce : Nat) (es : List Edt) (ok : Hid (PlOk fs es n m))
    (w : World) (φ : Phi) (hφ : Fz φ w) (s : SlV φ a cap fs) (se : SlV φ ae ce es) :
    Calls Tryd.prog 79 #[.agg #[.slice a n cap, .slice ae m ce]] w (RowsPost (allR fs n) φ w) := by
  have hn12 := ok.out.pos
  have hfl := Lib.hid ok.out.len
  obtain ⟨φ1, le1, i1, k1⟩ := (Inv.start hφ).frz (.cells #[.slice a n cap, .slice ae m ce] 25)
  obtain ⟨φ2, le2, i2, s2⟩ := SlV.lit (α := List Int) (w := w.alloc (.cells #[.slice a n cap, .slice ae m ce] 25)) i1.fz 32 (xs := [([] : List Int)]) (arr := #[.slice none 0 0]) (RepL.single (α := List Int) (x := []) (show Rep.rep φ1 ([] : List Int) [.slice none 0 0] from ⟨none, 0, rfl, SlV.empty _⟩)) (by simp [maxLen])
  have hS0 : Hid (Inv w.heap.size w φ φ2 ((w.alloc (.cells #[.slice a n cap, .slice ae m ce] 25)).alloc (.cells #[.slice none 0 0] 32)) ∧ φ2 w.heap.size = some (.cells #[.slice a n cap, .slice ae m ce] 25)) := Lib.hid ⟨i1.call i2, le2 _ _ k1⟩
  rw [alloc_size] at s2
  have hs2 := Lib.hid s2
  clear i1 i2 k1 s2 le1 le2
  have hpos := Lib.hid (flds_pos (Lib.hid ok.out.fld))
  have hmono := Lib.hid (fun k (hk : k ≤ n) => Nat.le_trans (prodK_mono (fun i hi => (hpos.out i hi).1) hk (Nat.le_refl n)) ok.out.mix)
  go_enter Tryd.func79, Tryd.ntmps79
  go_wp2
  have p0 : ((w.alloc (.cells #[.slice a n cap, .slice ae m ce] 25)).alloc (.cells #[.slice none 0 0] 32)).cell? ⟨w.heap.size, 0, none⟩ = some (.slice a n cap) := (hS0.out.1.fz.blk hS0.out.2).cell 0
  go_wp2
  clear p0
  generalize ((w.alloc (.cells #[.slice a n cap, .slice ae m ce] 25)).alloc (.cells #[.slice none 0 0] 32)) = W at *
  generalize hbx : w.heap.size = bx at *
  replace hbx := Lib.hid hbx
  go_loopw [3, 15] (fun v i wr => ∃ (k : Nat) (φ' : Phi) (ac : Option Addr) (cc : Nat), k ≤ n ∧ v = .slice ac (prodK fs k) cc ∧ i = .int .i64 k ∧ Hid (Inv bx w φ φ' wr ∧ φ' bx = some (.cells #[.slice a n cap, .slice ae m ce] 25)) ∧ Hid (SlV φ' ac cc (allQ fs k))) (fun _ i _ => n - (intOf i).toNat)
  case atStart => exact ⟨0, φ2, _, _, Nat.zero_le _, rfl, rfl, hS0, hs2⟩
  case round =>
    clear hS0 hs2
    obtain ⟨k, φ', ac, cc, hk, rfl, rfl, hS, hsl⟩ := hrel
    by_cases hlt : k < n
    · obtain ⟨b1, o1, rfl, f1⟩ := s.fldD hfl hlt
      obtain ⟨a3, c3, s3, f1⟩ := f1 k hlt
      obtain ⟨_, d1, d2, d3⟩ := f1 wr (hS.out.1.fz.sub hS.out.1.le)
      have HPA := Lib.hid (partK_all (fs := fs) (k := k))
      have HNL := Lib.hid (allQ_len fs k)
      have HNR := Lib.hid (allQ_row fs k)
      have HPR := Lib.hid (prodK.eq_2 fs k)
      have HM := hmono.out (k + 1) hlt
      have HM0 := hmono.out k hk
      have HC := (hpos.out k hlt).2
      clear f1
      generalize fs.getD k fld0 = X at *
      obtain ⟨nk, ck, wk⟩ := X
      dsimp only at d1 d2 d3 s3 HPA HPR HC
      obtain ⟨nc, hnc⟩ : ∃ j, Hid (ck.length = j) := ⟨_, Lib.hid rfl⟩
      rw [hnc.out] at d2 HPR HC
      have l1 := s3.capn
      have l2 := s3.capm
      rw [hnc.out] at l1
      unfold maxLen at l2
      obtain ⟨φ3, le3, i3, k3⟩ := hS.out.1.frz (.cells #[.string nk, .slice a3 nc c3, .int .i64 wk] 92)
      have hSa : Hid (Inv bx w φ φ3 (wr.alloc (.cells #[.string nk, .slice a3 nc c3, .int .i64 wk] 92)) ∧ φ3 bx = some (.cells #[.slice (some ⟨b1, o1, none⟩) n cap, .slice ae m ce] 25)) := Lib.hid ⟨i3, le3 _ _ hS.out.2⟩
      have hKf := Lib.hid k3
      have hsl3 := Lib.hid (hsl.out.mono le3)
      have s33 := Lib.hid ((s3.mono hS.out.1.le).mono le3)
      clear i3 k3 le3 hS hsl s3
      go_wp2
      clear d1 d2 d3
      generalize wr.alloc (.cells #[.string nk, .slice a3 nc c3, .int .i64 wk] 92) = wy at *
      generalize wr.heap.size = bf at *
      have hcl : Hid ((allQ fs k).length = prodK fs k) := HNL
      have HNX := Lib.hid (allQ_len fs (k + 1))
      rw [HPR.out] at HM
      generalize hcu : allQ fs k = cur at *
      generalize prodK fs k = N at *
      rw [hcl.out] at HPA
      have A0 := Lib.hid (AlSt.start (by rw [hbx.out]; exact hSa.out.1 : Inv w.heap.size w φ φ3 wy))
      go_loopw [6, 21] (fun v i wr => ∃ (j : Nat) (φ' : Phi) (ao : Option Addr) (co : Nat), j ≤ N ∧ v = .slice ao (partK cur ck j).length co ∧ i = .int .i64 j ∧ Hid (AlSt w φ φ3 φ' ao co (partK cur ck j) none 0 [] wr)) (fun _ i _ => N - (intOf i).toNat)
      case atStart => exact ⟨0, φ3, none, 0, Nat.zero_le _, rfl, rfl, A0⟩
      case round =>
        clear A0
        obtain ⟨j, φ', ao, co, hj, rfl, rfl, hA⟩ := hrel
        by_cases hjl : j < N
        · obtain ⟨b6, o6, rfl, f6⟩ := hsl3.out.lists hcl hjl
          obtain ⟨a6, c6, s6, f6⟩ := f6 j hjl
          have d6 := (f6 wr hA.out.fz).2
          have hrl : Hid ((cur.getD j []).length = k) := Lib.hid (HNR.out _ (by rw [getD_elem0 _ _ _ (by rw [hcl.out]; exact hjl)]; exact List.getElem_mem _))
          rw [hrl.out] at d6
          have HZ := Lib.hid (partI_zero (cur := cur) (cds := ck) (j := j))
          have HFU := Lib.hid (partI_full (cur := cur) (cds := ck) (j := j) (by rw [hcl.out]; exact hjl))
          have HSU := Lib.hid (fun i (hi : i < nc) => partI_succ (cur := cur) (cds := ck) (j := j) (i := i) (by rw [hnc.out]; exact hi))
          have HLE := Lib.hid (fun i (hi : i ≤ nc) => partI_len (cur := cur) (cds := ck) (j := j) (i := i) (by rw [hcl.out]; exact hj) (by rw [hnc.out]; exact hi))
          have hjn : j * nc + nc ≤ 20000 := by
            have h1 := Nat.mul_le_mul_right nc (show j + 1 ≤ N from hjl)
            rw [Nat.add_mul, Nat.one_mul] at h1
            omega
          rw [hnc.out] at HFU HLE
          clear f6
          have S6 := Lib.hid s6
          generalize cur.getD j [] = row at *
          generalize j * nc = jn at *
          have y1 : wr.cell? ⟨bf, 1, none⟩ = some (.slice a3 nc c3) := (hA.out.fz.blk hKf.out).cell 1
          have A1 : Hid (AlSt w φ φ3 φ' ao co (partI cur ck j 0) none 0 [] wr) := Lib.hid (by rw [HZ.out]; exact hA.out)
          rw [← HZ.out]
          go_wp2
          clear y1 d6 hA s6
          go_loopw [6, 28] (fun v i wr => ∃ (q : Nat) (φ' : Phi) (ao : Option Addr) (co : Nat), q ≤ nc ∧ v = .slice ao (partI cur ck j q).length co ∧ i = .int .i64 q ∧ Hid (AlSt w φ φ3 φ' ao co (partI cur ck j q) none 0 [] wr)) (fun _ i _ => nc - (intOf i).toNat)
          case atStart => exact ⟨0, φ', ao, co, Nat.zero_le _, rfl, rfl, A1⟩
          case round =>
            clear A1
            obtain ⟨q, φ', ao, co, hq, rfl, rfl, hA⟩ := hrel
            by_cases hql : q < nc
            · obtain ⟨b7, o7, ha7, f7⟩ := s33.out.intsD hnc hql
              have d7 := (f7 q hql wr hA.out.fz).2
              subst ha7
              clear f7
              have HS1 := Lib.hid (HSU.out q hql)
              have HL1 := Lib.hid (HLE.out q hq)
              generalize ck.getD q 0 = y at *
              go_wp2_with fail
              refine (Clone_n hA.out.ow.inv.fz (S6.out.mono hA.out.le) hrl (by omega)).mono ?_
              rintro e w5 ⟨a5, c5, rfl, hi5, ho5⟩
              have A5 := Lib.hid (hA.out.clone hi5 ho5)
              have hin := Lib.hid A5.out.ow.inv
              have hon := Lib.hid A5.out.ow.o2
              clear hi5 ho5 d7 hA
              rw [← hrl.out]
              go_wp2_with (first
                | (at_builtin; (refine wpList_app1F (α := Int) rfl _ _ 32 rfl slI hin.out a5 c5 row hon.out _ _ y rfl rfl 1 rfl (by rw [hrl.out]; omega) ?_; intro a8 c8 w8 hi8 ho8 hg8 hf8; obtain ⟨φ9, A9, s9⟩ := (A5.out.in2 hi8 ho8 hg8 hf8).frozen2; have A9 := Lib.hid A9; have s9 := Lib.hid s9; have hin9 := Lib.hid A9.out.ow.inv; have hon9 := Lib.hid A9.out.ow.o1; clear hi8 ho8 hg8 hf8 A5 hin hon))
                | (at_builtin; (refine wpList_app1F (α := List Int) rfl _ _ 26 rfl slLL hin9.out ao co _ hon9.out _ _ (row ++ [y]) ⟨a8, c8, (by simp), s9.out⟩ rfl 1 rfl (by rw [HL1.out]; omega) ?_; intro aA cA wA hiA hoA hgA hfA)))
              rw [hrl.out]
              go_roundw
              case rel => exact ⟨q + 1, φ9, aA, cA, by omega, by rw [HS1.out, List.length_append]; rfl, by go_num, by rw [HS1.out]; exact Lib.hid (A9.out.in1 hiA hoA)⟩
              case measure => (simp [intOf] <;> omega)
            · obtain rfl : q = nc := by omega
              have A2 : Hid (AlSt w φ φ3 φ' ao co (partK cur ck (j + 1)) none 0 [] wr) := Lib.hid (by rw [← HFU.out]; exact hA.out)
              rw [HFU.out]
              clear hA
              go_wp2
              go_roundw
              case rel => exact ⟨j + 1, φ', ao, co, by omega, rfl, by go_num, A2⟩
              case measure => (simp [intOf] <;> omega)
        · obtain rfl : j = N := by omega
          obtain ⟨φ4, le4, i4, s4⟩ := hA.out.fin
          rw [HPA.out] at s4 ⊢
          have S4 := Lib.hid s4
          have I4 : Hid (Inv bx w φ φ4 wr ∧ φ4 bx = some (.cells #[.slice (some ⟨b1, o1, none⟩) n cap, .slice ae m ce] 25)) := Lib.hid ⟨by rw [← hbx.out]; exact i4, le4 _ _ hSa.out.2⟩
          rw [HNX.out]
          clear s4 i4 le4 hA
          go_wp2
          go_roundw
          case rel => exact ⟨k + 1, φ4, ao, co, by omega, rfl, by go_num, I4, S4⟩
          case measure => (simp [intOf] <;> omega)
    · obtain rfl : k = n := by omega
      go_wp2
      go_ret
      have h := hsl.out
      rw [← allQ_len]
      rw [allQ_all] at h ⊢
      exact ⟨ac, cc, φ', rfl, by rw [hbx.out]; exact hS.out.1, h⟩
end Go.Proofs.YtkfmadeeobalaaaDoor

namespace Go.Proofs.YtkfmadeeobalaaaDoor
open Go.RowKit
set_option linter.unusedVariables false
/-- A record fails one of the first k edits that are left. -/
def badK (es : List Edt) (n : Nat) (left : List Bool) (r : List Int) : Nat → Bool
  | 0 => false
  | k + 1 => badK es n left r k || (left.getD k false && hitB (es.getD k edt0).2 r n)
theorem badK_eq {es : List Edt} {n : Nat} {left : List Bool} {r : List Int} : ∀ m, badK es n left r m = !((List.range m).all (fun k => !(left.getD k false && hitB (es.getD k edt0).2 r n)))
  | 0 => rfl
  | m + 1 => by rw [badK, badK_eq m, List.range_succ, List.all_append]; simp
/-- It does not fail edit i, or another one of the first k that are left. -/
def ndK (es : List Edt) (n : Nat) (left : List Bool) (i : Nat) (r : List Int) : Nat → Bool
  | 0 => !hitB (es.getD i edt0).2 r n
  | k + 1 => ndK es n left i r k || (!decide (k = i) && left.getD k false && hitB (es.getD k edt0).2 r n)
theorem ndK_eq {es : List Edt} {n : Nat} {left : List Bool} {i : Nat} {r : List Int} : ∀ m, ndK es n left i r m = !onlyB es n m left i r
  | 0 => by simp [ndK, onlyB]
  | m + 1 => by
    rw [ndK, ndK_eq m]
    unfold onlyB
    rw [List.range_succ, List.all_append]
    simp only [List.all_cons, List.all_nil, Bool.and_true]
    generalize (List.range m).all _ = A
    generalize decide (m = i) = D
    generalize hitB (es.getD i edt0).2 r n = h1
    generalize left.getD m false = h2
    generalize hitB (es.getD m edt0).2 r n = h3
    revert A D h1 h2 h3
    decide
theorem any_off {α : Type} {l : List α} {p : α → Bool} {d : α} {n : Nat} (hn : l.length = n) (h : ∀ i, i < n → p (l.getD i d) = false) : l.any p = false := by
  rw [List.any_eq_false]
  intro x hx
  obtain ⟨i, hi, rfl⟩ := List.mem_iff_getElem.1 hx
  have := h i (by omega)
  rw [getD_elem0 _ _ _ hi] at this
  simp [this]
theorem any_on {α : Type} {l : List α} {p : α → Bool} {d : α} {i : Nat} (hi : i < l.length) (h : p (l.getD i d) = true) : l.any p = true := by
  rw [getD_elem0 _ _ _ hi] at h
  exact List.any_eq_true.2 ⟨_, List.getElem_mem _, h⟩
theorem Inv.bx {B : Nat} {w0 w : World} {φ0 φ : Phi} (h : Inv B w0 φ0 φ w) {φ1 : Phi} (hl : φ1.le φ) {g : Nat} {cs : Array Value} {T : TypeId} (hg : φ1 g = some (.cells cs T)) : Blk w g cs T := h.fz _ _ (hl _ _ hg)
set_option maxRecDepth 100000 in
set_option maxHeartbeats 2000000 in
theorem Rpossible_any
  (n : Nat) (a : Option Addr) (cap : Nat) (fs : List Fld) (m : Nat) (ae : Option Addr) (ce : Nat) (es : List Edt) (ok : Hid (PlOk fs es n m))
    (w : World) (φ : Phi) (hφ : Fz φ w) (s : SlV φ a cap fs) (se : SlV φ ae ce es) (al : Option Addr) (cl : Nat) (left : List Bool) (sl : SlV φ al cl left) (hll : Hid (left.length = m)) {b : Bool} (hb : Hid (posB fs es n m left = b)) :
    Calls Tryd.prog 31 #[.agg #[.slice a n cap, .slice ae m ce], .slice al m cl] w (BoolB b w) := by
  have hn12 := ok.out.pos
  have hm60 := ok.out.cnt
  have hel := Lib.hid ok.out.elen
  have hed := Lib.hid ok.out.edt
  obtain ⟨φ1, le1, i1, k1⟩ := (Inv.start hφ).frz (.cells #[.slice a n cap, .slice ae m ce] 25)
  have hS0 := Lib.hid i1
  have hk1 := Lib.hid k1
  clear i1 k1
  go_enter Tryd.func31, Tryd.ntmps31
  go_wp2_with fail
  have p0 := (hS0.out.fz.blk hk1.out).cell 0
  have p1 := (hS0.out.fz.blk hk1.out).cell 1
  go_wp2_with fail
  refine (Rall_any n a cap fs m ae ce es ok _ φ1 hS0.out.fz (s.mono le1) (se.mono le1)).mono ?_
  rintro e w1 ⟨ar, cr, φ2, rfl, hi2, s2⟩
  have hS := Lib.hid (And.intro (hS0.out.call hi2) (hi2.le _ _ hk1.out))
  have hrow := Lib.hid (fun r (hr : r ∈ allR fs n) => allQ_row fs n r (by rw [allQ_all]; exact hr))
  have hs2 := Lib.hid s2
  have le2 := Lib.hid hi2.le
  clear hi2 s2 hS0 p0 p1
  have hb2 : Hid ((allR fs n).any (fun r => !badK es n left r m) = b) := Lib.hid (by
    rw [← hb.out, posB]; congr 1; funext r; rw [badK_eq, Bool.not_not])
  generalize allR fs n = R at *
  obtain ⟨N, hN⟩ : ∃ N, Hid (R.length = N) := ⟨_, Lib.hid rfl⟩
  rw [hN.out]
  have hRl := hs2.out.capn
  have hRm := hs2.out.capm
  rw [hN.out] at hRl
  unfold maxLen at hRm
  generalize hbx : w.heap.size = bx at *
  replace hbx := Lib.hid hbx
  go_wp2
  go_loopw [13] (fun i wr => ∃ j : Nat, j ≤ N ∧ i = .int .i64 j ∧ Hid (∀ i, i < j → badK es n left (R.getD i []) m = true) ∧ Hid (Inv bx w φ φ2 wr)) (fun i _ => N - (intOf i).toNat)
  case atStart => exact ⟨0, Nat.zero_le _, rfl, Lib.hid (fun i hi => by omega), Lib.hid hS.out.1⟩
  case round =>
    obtain ⟨j, hj, rfl, hno, hI⟩ := hrel
    by_cases hjl : j < N
    · obtain ⟨b6, o6, ha6, f6⟩ := hs2.out.lists hN hjl
      obtain ⟨a6, c6, s6, f6⟩ := f6 j hjl
      have d6 := (f6 wr hI.out.fz).2
      subst ha6
      have hrl : Hid ((R.getD j []).length = n) := Lib.hid (hrow.out _ (by rw [getD_elem0 _ _ _ (by rw [hN.out]; exact hjl)]; exact List.getElem_mem _))
      rw [hrl.out] at d6
      have HY := Lib.hid (fun h : badK es n left (R.getD j []) m = false => any_on (p := fun r => !badK es n left r m) (d := []) (by rw [hN.out]; exact hjl) (by simp only [h]; rfl))
      have HN : Hid (badK es n left (R.getD j []) m = true → ∀ i, i < j + 1 → badK es n left (R.getD i []) m = true) := Lib.hid (fun h i hi => by
        by_cases e : i = j
        · subst e; exact h
        · exact hno.out i (by omega))
      clear f6
      have S6 := Lib.hid s6
      generalize R.getD j [] = r at *
      have y1 : wr.cell? ⟨bx, 1, none⟩ = some (.slice ae m ce) := (hI.out.bx (Phi.le_refl _) hS.out.2).cell 1
      go_wp2
      clear y1 d6 s6
      go_loopw [7, 20] (fun v i wr => ∃ k : Nat, k ≤ m ∧ v = .bool (badK es n left r k) ∧ i = .int .i64 k ∧ Hid (Inv bx w φ φ2 wr)) (fun _ i _ => m - (intOf i).toNat)
      case atStart => exact ⟨0, Nat.zero_le _, rfl, rfl, hI⟩
      case round =>
        clear hI
        obtain ⟨k, hk, rfl, rfl, hI⟩ := hrel
        by_cases hlt : k < m
        · obtain ⟨b1, o1, ha1, f1⟩ := se.edtD hel hlt
          obtain ⟨a3, c3, s3, f1⟩ := f1 k hlt
          obtain ⟨_, d1, d2⟩ := f1 wr (hI.out.fz.sub hI.out.le)
          obtain ⟨b4, o4, ha4, f4⟩ := sl.boolsD hll hlt
          have hsn := (hed.out k hlt).1
          have HB := Lib.hid (badK.eq_2 es n left r k)
          have hIa := Lib.hid (hI.out.alloc (.cells #[.string (es.getD k edt0).1, .slice a3 n c3] 106))
          have d4 := (f4 k hlt _ (hIa.out.fz.sub hIa.out.le)).2
          subst ha1
          subst ha4
          obtain ⟨o, ho⟩ : ∃ o, Hid (hitB (es.getD k edt0).2 r n = o) := ⟨_, Lib.hid rfl⟩
          rw [ho.out] at HB
          clear f1 f4
          generalize es.getD k edt0 = X at *
          obtain ⟨nk, ck⟩ := X
          dsimp only at d1 d2 hsn ho s3 hIa
          rw [hsn] at d2
          have hnc : Hid (ck.length = n) := Lib.hid hsn
          have hNb := Lib.hid (Blk.new wr #[.string nk, .slice a3 n c3] 106)
          clear hsn
          generalize left.getD k false = l0 at *
          have HB2 := Lib.hid HB.out
          generalize hbk : badK es n left r k = b0 at *
          cases b0 <;> cases l0
          all_goals go_wp2_with fail
          all_goals first
            | exact ⟨⟨k + 1, by omega, by rw [HB2.out]; simp, by go_num, hIa⟩, by simp [intOf]; omega⟩
            | (refine (Rfails_any nk n a3 c3 ck _ φ2 hIa.out.fz (s3.mono hI.out.le) hnc (by omega) a6 c6 r S6.out hrl ho).mono ?_
               rintro e w5 ⟨rfl, hb5⟩
               have hI5 := Lib.hid (hIa.out.callB hb5)
               clear hb5 hIa hI hNb d1 d2 d4
               go_wp2
               go_roundw
               case rel => exact ⟨k + 1, by omega, by rw [HB2.out]; simp, by go_num, hI5⟩
               case measure => (simp [intOf] <;> omega))
        · obtain rfl : k = m := by omega
          generalize badK es n left r k = b0 at *
          cases b0 with
          | false =>
            have H := Lib.hid (HY.out rfl)
            go_wp2
            go_ret
            exact ⟨ret_bool (H.out.symm.trans hb2.out), by rw [hbx.out]; exact hI.out.bel⟩
          | true =>
            have H := Lib.hid (HN.out rfl)
            go_wp2
            go_roundw
            case rel => exact ⟨j + 1, by omega, by go_num, H, hI⟩
            case measure => (simp [intOf] <;> omega)
    · obtain rfl : j = N := by omega
      have H := Lib.hid (any_off (p := fun r => !badK es n left r m) hN.out (fun i hi => by rw [hno.out i hi]; rfl))
      go_wp2
      go_ret
      exact ⟨ret_bool (H.out.symm.trans hb2.out), by rw [hbx.out]; exact hI.out.bel⟩
end Go.Proofs.YtkfmadeeobalaaaDoor

namespace Go.Proofs.YtkfmadeeobalaaaDoor
open Go.RowKit
set_option linter.unusedVariables false
/-- The edits that the rest makes needless. -/
def redR (fs : List Fld) (es : List Edt) (F : Int) : List Int := if F = 0 then dropL fs es fs.length es.length es.length else []
/-- The edits that clash. -/
def clashR (fs : List Fld) (es : List Edt) (F : Int) : List Int × Bool := if F = 0 then (if posB fs es fs.length es.length (List.replicate es.length true) = true then ([], false) else (keptL fs es fs.length es.length es.length, true)) else ([], false)
def ClashPost (l : List Int) (b : Bool) (F : Int) (φ : Phi) (w : World) (e : Ending) (w' : World) : Prop :=
  ∃ φ' a cap, e = .returned (.tuple #[.slice a l.length cap, .bool b, .int .i64 F]) ∧ Inv w.heap.size w φ φ' w' ∧ SlV φ' a cap l
/-- The rows that the call owns: what is left, what comes out. -/
abbrev RdSt (w0 : World) (φ : Phi) (g m : Nat) (left : List Bool) (ao : Option Addr) (co : Nat) (xs : List Int) (wr : World) : Prop := Ow2 w0 φ 4 3 (some ⟨g, 0, none⟩) m left ao co xs wr
theorem Ow2.fin {α β : Type} [Rep α] [Rep β] {w0 wr : World} {φ0 φ : Phi} {E F : TypeId} {a1 a2 : Option Addr} {c1 c2 : Nat} {xs : List α} {ys : List β} (h : Ow2 w0 φ E F a1 c1 xs a2 c2 ys wr) (hl : φ0.le φ) (hn : ∀ b, b < w0.heap.size → φ b = φ0 b) : ∃ φ', Inv w0.heap.size w0 φ0 φ' wr ∧ SlV φ' a2 c2 ys := by
  obtain ⟨φ', l, i, _, s⟩ := h.release
  exact ⟨φ', ⟨i.bel, i.base, i.fz, hl.trans l, fun b hb => (i.new b hb).trans (hn b hb)⟩, s⟩
theorem leftK_len2 {fs : List Fld} {es : List Edt} {n m i : Nat} : Hid ((leftK fs es n m i).length = m) := Lib.hid (leftK_len fs es n m i)
theorem set_back {l : List Bool} {k : Nat} (h : l.getD k false = true) : (l.set k false).set k true = l := by
  rw [List.set_set]
  apply List.ext_getElem
  · rw [List.length_set]
  · intro i h1 h2
    rw [List.getElem_set]
    by_cases e : k = i
    · subst e
      rw [if_pos rfl]
      rw [getD_elem0 _ _ _ h2] at h
      exact h.symm
    · rw [if_neg e]
theorem Inv.cat' {B : Nat} {w0 w : World} {φ0 φ1 φ2 : Phi} (k : Inv B w0 φ1 φ2 w) (hl : φ0.le φ1) (hn : ∀ b, b < B → φ1 b = φ0 b) : Inv B w0 φ0 φ2 w := ⟨k.bel, k.base, k.fz, hl.trans k.le, fun b hb => (k.new b hb).trans (hn b hb)⟩
end Go.Proofs.YtkfmadeeobalaaaDoor
