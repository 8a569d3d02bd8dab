/- The walks of the reference's fill, first, First. Conditions: the library's table of blanks reads as it was laid. The walks of the reference's first, First, and of slices.Equal at []int. Conditions: the library's table of blanks reads as it was laid. The walk of the program's Fails; the walk of the law EditRecordsMatchSpec. Conditions: the library's table of blanks reads as it was laid. The walks of the reference's weight, ahead, sorted. Conditions: none beyond what the claim form gives. -/
import Derived.Test.YtkfmadeeobalaaaDoorQA
import Derived.Test.YtkfmadeeobalaaaDoorPl
namespace Go.Proofs.YtkfmadeeobalaaaDoor
open Go.RowKit
set_option linter.unusedVariables false

/-- Completions along a list of free fields. -/
def compL (fs : List Fld) : List Int → List Int → List (List Int)
  | [], x => [x]
  | j :: r, x => (fs.getD j.toNat fld0).2.1.flatMap (fun c => compL fs r (x.set j.toNat c))
theorem comps_L {fs : List Fld} {free : List Bool} : ∀ {r f : Nat} {F x : List Int}, F.Pairwise (· < ·) → (∀ k ∈ F, (f : Int) ≤ k ∧ k < f + r) → (∀ i, f ≤ i → i < f + r → (free.getD i false = true ↔ (i : Int) ∈ F)) → comps fs free r f x = compL fs F x
  | 0, f, [], x, _, _, _ => rfl
  | 0, f, k :: F, x, _, h, _ => by have := h k (by simp); omega
  | r + 1, f, F, x, hs, hr, hf => by
    by_cases hb : free.getD f false = true
    · have hm := (hf f (Nat.le_refl _) (by omega)).1 hb
      cases F with
      | nil => simp at hm
      | cons k F' =>
        rw [List.pairwise_cons] at hs
        have hk : k = (f : Int) := by
          rcases List.mem_cons.1 hm with h | h
          · exact h.symm
          · have := hs.1 _ h
            have := (hr k (by simp)).1
            omega
        subst hk
        rw [comps, if_pos hb, compL]
        congr 1
        funext c
        refine comps_L hs.2 (fun k hk => ?_) (fun i h1 h2 => ?_)
        · have := hs.1 k hk
          have := hr k (by simp [hk])
          omega
        · rw [hf i (by omega) (by omega), List.mem_cons]
          constructor
          · rintro (h | h)
            · omega
            · exact h
          · exact .inr
    · have hm : ¬ (f : Int) ∈ F := fun h => hb ((hf f (Nat.le_refl _) (by omega)).2 h)
      rw [comps, if_neg hb]
      refine comps_L hs (fun k hk => ?_) (fun i h1 h2 => hf i (by omega) (by omega))
      have := hr k hk
      have : k ≠ f := fun e => hm (e ▸ hk)
      omega
theorem firstS_L {fs : List Fld} {es : List Edt} {n m : Nat} {rec free : List Int} (h1 : ∀ k ∈ free, 0 ≤ k ∧ k < n) (h2 : free.Pairwise (· < ·)) :
    firstS fs es n m rec free = match (compL fs free rec).find? (fun x => passB fs es x n m) with | some x => (x, true) | none => ([], false) := by
  unfold firstS
  rw [foldU_first, comps_L (F := free) h2 (fun k hk => by have := h1 k hk; omega) (fun i _ hi => by rw [frB_get (by omega)]; simp)]
  cases (compL fs free rec).find? (fun x => passB fs es x n m) <;> rfl
def Agr (x x' F : List Int) : Prop := ∀ j : Nat, (j : Int) ∉ F → x'.getD j 0 = x.getD j 0
theorem compL_agr {fs : List Fld} : ∀ {F x x' : List Int}, x'.length = x.length → (∀ k ∈ F, 0 ≤ k) → Agr x x' F → compL fs F x' = compL fs F x
  | [], x, x', hl, _, h => by
    rw [compL, compL, ext_getD hl (fun i hi => h i (by simp))]
  | k :: F, x, x', hl, h0, h => by
    rw [compL, compL]
    congr 1
    funext c
    refine compL_agr (by rw [List.length_set, List.length_set, hl]) (fun j hj => h0 j (by simp [hj])) (fun j hj => ?_)
    rw [getD_set, getD_set, hl]
    by_cases e : j = k.toNat
    · by_cases e2 : k.toNat < x.length
      · rw [if_pos ⟨e, e2⟩, if_pos ⟨e, e2⟩]
      · rw [if_neg (fun q => e2 q.2), if_neg (fun q => e2 q.2)]
        have h1 : x'.length ≤ j := by omega
        have h2 : x.length ≤ j := by omega
        simp [List.getD_eq_getElem?_getD, List.getElem?_eq_none h1, List.getElem?_eq_none h2]
    · rw [if_neg (fun q => e q.1), if_neg (fun q => e q.1)]
      refine h j (fun hm => ?_)
      rcases List.mem_cons.1 hm with hm | hm
      · have := h0 k (by simp); omega
      · exact hj hm
theorem drop_consD {l : List Int} {k : Nat} (h : k < l.length) : l.drop k = l.getD k 0 :: l.drop (k + 1) := drop_getD h
/-- All that was there is as it was, but for block g. -/
def Keep (g : Nat) (w w' : World) : Prop := w.heap.size ≤ w'.heap.size ∧ ∀ b, b < w.heap.size → b ≠ g → w'.heap[b]? = w.heap[b]?
theorem Keep.refl (g : Nat) (w : World) : Keep g w w := ⟨Nat.le_refl _, fun _ _ _ => rfl⟩
theorem Keep.trans {g : Nat} {a b c : World} (h : Keep g a b) (k : Keep g b c) : Keep g a c := ⟨Nat.le_trans h.1 k.1, fun x hx hg => (k.2 x (Nat.lt_of_lt_of_le hx h.1) hg).trans (h.2 x hx hg)⟩
theorem Keep.below {g : Nat} {a b : World} (h : Below a.heap.size a b) : Keep g a b := ⟨h.size, fun x hx _ => h.block x hx⟩
theorem Keep.set (g k : Nat) (w : World) (v : Value) : Keep g w (w.setCell ⟨g, k, none⟩ v) := ⟨(grown_set w g k v).size, fun x hx hg => (grown_set w g k v).block x hx (fun e => hg (Option.some.inj e))⟩
theorem Keep.blk {g : Nat} {a b : World} (h : Keep g a b) {x : Nat} {cs : Array Value} {T : TypeId} (hb : Blk a x cs T) (hne : x ≠ g) : Blk b x cs T := (h.2 x hb.lt hne).trans hb
def FillPost (w : World) (B : Nat) (w0 : World) (φ : Phi) (g c n : Nat) (x F : List Int) (q : Option (List Int)) (e : Ending) (w' : World) : Prop :=
  ∃ x', e = .returned (.bool q.isSome) ∧ Inv B w0 φ φ w' ∧ Own B φ w' 3 (some ⟨g, 0, none⟩) c x' ∧ Hid (x'.length = n) ∧ (∀ y, q = some y → x' = y) ∧ Agr x x' F ∧ Keep g w w'
set_option maxRecDepth 100000 in
set_option maxHeartbeats 2000000 in
theorem fill_any
  (n : Nat) (a : Option Addr) (cap : Nat) (fs : List Fld) (m : Nat) (ae : Option Addr) (ce : Nat) (es : List Edt) {φ : Phi} (s : SlV φ a cap fs) (se : SlV φ ae ce es)
    (hok : Hid (PlOk fs es n m)) {B : Nat} {w0 : World} {g c : Nat} (nf : Nat) (a2 : Option Addr) (c2 : Nat) (free : List Int) (sf : SlV φ a2 c2 free) (hfl : Hid (free.length = nf)) (hmf : nf ≤ 9223372036854775806) (hfr : Hid (∀ k ∈ free, 0 ≤ k ∧ k < (n : Int))) :
    ∀ (r k : Nat), nf - k = r → k ≤ nf → ∀ (ki : Int), ki = (k : Int) → ∀ (x : List Int) (w : World), Hid (x.length = n) → Inv B w0 φ φ w → Own B φ w 3 (some ⟨g, 0, none⟩) c x → ∀ {q : Option (List Int)}, Hid ((compL fs (free.drop k) x).find? (fun x => passB fs es x n m) = q) →
    Calls Tryd.prog 115 #[.agg #[.slice a n cap, .slice ae m ce], .slice (some ⟨g, 0, none⟩) n c, .slice a2 nf c2, .int .i64 ki] w (FillPost w B w0 φ g c n x (free.drop k) q) := by
  intro r
  induction r with
  | zero =>
    intro k hr hle ki hki x w hx hI hO q hq
    subst hki
    obtain rfl : k = nf := by omega
    have hq2 : Hid ((if passB fs es x n m = true then some x else none) = q) := Lib.hid (by
      have h := hq.out
      rw [List.drop_eq_nil_of_le (by rw [hfl.out]; exact Nat.le_refl _), compL, List.find?_cons] at h
      rw [← h]
      cases passB fs es x n m <;> rfl)
    have HI := Lib.hid (hI.alloc (.cells #[.slice a n cap, .slice ae m ce] 25))
    have HO := Lib.hid (hO.alloc (.cells #[.slice a n cap, .slice ae m ce] 25))
    obtain ⟨φx, hle2, hix, sx, _⟩ := HO.out.release HI.out
    have HX := Lib.hid hix.fz
    have s2 := s.mono hle2
    have se2 := se.mono hle2
    obtain ⟨p, hp⟩ : ∃ p, Hid (passB fs es x n m = p) := ⟨_, Lib.hid rfl⟩
    have heq : ((k : Int) == k) = true := by simp
    clear hI hO hle2 hix
    go_enter Tryd.func115, Tryd.ntmps115
    go_wp2_with fail
    refine (Rpasses_any n a cap fs m ae ce es _ φx HX.out s2 se2 hok.out _ c x sx hx hp).mono ?_
    rintro e w1 ⟨rfl, hb1⟩
    have HI2 := Lib.hid (HI.out.callB hb1)
    have HO2 := Lib.hid (HO.out.callB hb1)
    have HK := Lib.hid (((Keep.below ((Below.refl _ _).alloc (Nat.le_refl _) _)).trans (Keep.below hb1) : Keep g w w1))
    clear hb1 HI HO
    go_wp2
    go_ret
    have h := hq2.out
    rw [hp.out] at h
    cases p
    · rw [if_neg (by simp)] at h
      subst h
      exact ⟨x, rfl, HI2.out, HO2.out, hx, (fun y hy => by cases hy), (fun j _ => rfl), HK.out⟩
    · rw [if_pos rfl] at h
      subst h
      exact ⟨x, rfl, HI2.out, HO2.out, hx, (fun y hy => by cases hy; rfl), (fun j _ => rfl), HK.out⟩
  | succ r ih =>
    intro k hr hle ki hki x w hx hI hO q hq
    subst hki
    have hlt : k < nf := by omega
    have IH := Lib.hid ih
    clear ih
    have hk0 := hfr.out (free.getD k 0) (by rw [getD_elem0 _ _ _ (by rw [hfl.out]; exact hlt)]; exact List.getElem_mem _)
    have hdc := Lib.hid (drop_consD (l := free) (k := k) (by rw [hfl.out]; exact hlt))
    have hF0 := Lib.hid (fun j (hj : j ∈ free.drop (k + 1)) => (hfr.out j (List.mem_of_mem_drop hj)).1)
    obtain ⟨b2, o2, rfl, f2⟩ := sf.intsD hfl hlt
    have HI := Lib.hid (hI.alloc (.cells #[.slice a n cap, .slice ae m ce] 25))
    have HO := Lib.hid (hO.alloc (.cells #[.slice a n cap, .slice ae m ce] 25))
    have hBx := Lib.hid (Blk.new w #[.slice a n cap, .slice ae m ce] 25)
    have hfx := Lib.hid (f2 k hlt)
    clear f2 hI hO
    generalize free.getD k 0 = p0 at *
    obtain ⟨p, rfl⟩ : ∃ p : Nat, p0 = p := ⟨p0.toNat, by omega⟩
    have hp : p < n := by omega
    have hgx : g < w.heap.size + 1 := by have := (HO.out.lt _ rfl).2; rw [alloc_size] at this; exact this
    have hgne : g ≠ w.heap.size := by
      intro e
      obtain ⟨g', hg', _, fO⟩ := HO.out.intsD hx hp
      cases hg'
      have h1 := (fO p hp).1
      have h2 := hBx.out.cell p
      rw [← e] at h2
      rw [h1] at h2
      cases p with
      | zero => simp at h2
      | succ p => cases p with
        | zero => simp at h2
        | succ p => simp at h2
    have hfl2 := Lib.hid hok.out.len
    obtain ⟨b3, o3, ha3, f3⟩ := s.fldD hfl2 hp
    obtain ⟨a4, c4, s4, f4⟩ := f3 p hp
    have hf4 := Lib.hid f4
    have hcl := (fieldF_zero (fldBad_zero (hok.out.fld p hp)).2.2).2.1
    have hq2 : Hid (((fs.getD p fld0).2.1.flatMap (fun y => compL fs (free.drop (k + 1)) (x.set p y))).find? (fun x => passB fs es x n m) = q) := Lib.hid (by
      have h := hq.out
      rw [hdc.out, compL] at h
      exact h)
    clear f3 f4
    subst ha3
    generalize (fs.getD p fld0).2.1 = cd at *
    obtain ⟨nc, hnc⟩ : ∃ nc, Hid (cd.length = nc) := ⟨_, Lib.hid rfl⟩
    rw [hnc.out] at hcl
    have e3 := s4.capn
    have e4 := s4.capm
    rw [hnc.out] at e3
    unfold maxLen at e4
    have hne : ((k : Int) == nf) = false := by simp; omega
    go_enter Tryd.func115, Tryd.ntmps115
    go_wp2
    have d1 := (hfx.out _ HI.out.fz).2
    have d2 := (hf4.out _ HI.out.fz).2.2.1
    rw [hnc.out] at d2
    have d3 := hBx.out.cell 0
    have HK := Lib.hid ((Keep.below ((Below.refl _ _).alloc (Nat.le_refl _) (.cells #[.slice (some ⟨b3, o3, none⟩) n cap, .slice ae m ce] 25)) : Keep g w _))
    generalize hW : w.alloc (.cells #[.slice (some ⟨b3, o3, none⟩) n cap, .slice ae m ce] 25) = W at *
    generalize w.heap.size = bx at *
    clear hW
    have d3' : W.cell? ⟨bx, 0, none⟩ = some (.slice (some ⟨b3, o3, none⟩) n cap) := d3
    clear d3
    go_quiet (fail)
    go_wp2
    have HI2 := Lib.hid (HI.out.drewN nq)
    have HO2 := Lib.hid (HO.out.drewN nq)
    have hBx2 : Hid (Blk (W.drewN nq) bx #[.slice (some ⟨b3, o3, none⟩) n cap, .slice ae m ce] 25) := hBx
    have HK2 : Hid (Keep g w (W.drewN nq)) := HK
    generalize W.drewN nq = V at *
    clear d1 d2 d3' HI HO hBx hne
    go_loopw [28] (fun i wr => ∃ (j : Nat) (x1 : List Int), j ≤ nc ∧ i = .int .i64 j ∧ Hid (x1.length = n) ∧ Hid (Inv B w0 φ φ wr) ∧ Hid (Own B φ wr 3 (some ⟨g, 0, none⟩) c x1) ∧ Hid (Blk wr bx #[.slice (some ⟨b3, o3, none⟩) n cap, .slice ae m ce] 25) ∧ Hid (Agr x x1 (free.drop k)) ∧ Hid (Keep g w wr) ∧ Hid (((cd.drop j).flatMap (fun y => compL fs (free.drop (k + 1)) (x.set p y))).find? (fun x => passB fs es x n m) = q)) (fun i _ => nc - (intOf i).toNat)
    case atStart => exact ⟨0, x, Nat.zero_le _, rfl, hx, HI2, HO2, hBx2, Lib.hid (fun j _ => rfl), HK2, Lib.hid (by rw [List.drop_zero]; exact hq2.out)⟩
    case round =>
      clear HI2 HO2 hBx2 hq2
      obtain ⟨j, x1, hj, rfl, hx1, hI1, hO1, hB1, hA1, hK1, hq3⟩ := hrel
      by_cases hjl : j < nc
      · obtain ⟨b5, o5, ha5, f5⟩ := s4.intsD hnc hjl
        have d5 := (f5 j hjl wr hI1.out.fz).2
        subst ha5
        clear f5
        obtain ⟨g', hg', hglt1, fO⟩ := hO1.out.intsD hx1 hp
        cases hg'
        obtain ⟨d3, d4, hst⟩ := fO p hp
        have HST := Lib.hid hst
        clear fO hst
        have d6 := (hfx.out wr hI1.out.fz).2
        have hq4 : Hid ((compL fs (free.drop (k + 1)) (x.set p (cd.getD j 0)) ++ (cd.drop (j + 1)).flatMap (fun y => compL fs (free.drop (k + 1)) (x.set p y))).find? (fun x => passB fs es x n m) = q) := Lib.hid (by
          have h := hq3.out
          rw [drop_getD (d := 0) (l := cd) (k := j) (by rw [hnc.out]; exact hjl), List.flatMap_cons] at h
          exact h)
        generalize cd.getD j 0 = y at *
        have hag : Hid (compL fs (free.drop (k + 1)) (x1.set p y) = compL fs (free.drop (k + 1)) (x.set p y)) := Lib.hid (compL_agr (by rw [List.length_set, List.length_set, hx1.out, hx.out]) hF0.out (fun i hi => by
          rw [getD_set, getD_set, hx1.out, hx.out]
          by_cases e : i = p
          · rw [if_pos ⟨e, hp⟩, if_pos ⟨e, hp⟩]
          · rw [if_neg (fun q => e q.1), if_neg (fun q => e q.1)]
            refine hA1.out i (fun hm => ?_)
            rw [hdc.out] at hm
            rcases List.mem_cons.1 hm with hm | hm
            · omega
            · exact hi hm))
        obtain ⟨q2, hq5⟩ : ∃ q2, Hid ((compL fs (free.drop (k + 1)) (x1.set p y)).find? (fun x => passB fs es x n m) = q2) := ⟨_, Lib.hid rfl⟩
        have hq6 : Hid (q2.or (((cd.drop (j + 1)).flatMap (fun y => compL fs (free.drop (k + 1)) (x.set p y))).find? (fun x => passB fs es x n m)) = q) := Lib.hid (by
          have h := hq4.out
          rw [List.find?_append, ← hag.out, hq5.out] at h
          exact h)
        have hO2 := Lib.hid (HST.out y w0 φ hI1.out).1
        have hI2 := Lib.hid (HST.out y w0 φ hI1.out).2
        have hB2 := Lib.hid (hB1.out.other (a := ⟨g, p, none⟩) hgne (.int .i64 y))
        have hlen : Hid ((x1.set p y).length = n) := Lib.hid (by rw [List.length_set]; exact hx1.out)
        have hgo := Lib.hid (IH.out (k + 1) (by omega) (by omega) ((k : Int) + 1) (by omega) (x1.set p y) _ hlen hI2.out hO2.out hq5)
        have m0 := hB2.out.cell 0
        have m1 := hB2.out.cell 1
        have hAS : Hid (∀ x', Agr (x1.set p y) x' (free.drop (k + 1)) → Agr x x' (free.drop k)) := Lib.hid (fun x' h i hi => by
          rw [hdc.out] at hi
          rw [h i (fun hm => hi (by simp [hm])), getD_set, if_neg (fun q => hi (by simp [q.1]))]
          exact hA1.out i (by rw [hdc.out]; exact hi))
        have hK2 := Lib.hid (hK1.out.trans (Keep.set g p wr (.int .i64 y)))
        clear hq4 hq5 hag HST
        cases q2 with
        | none =>
          go_wp2_with fail
          refine hgo.out.mono ?_
          rintro e w' ⟨x', rfl, hI3, hO3, hx3, hy3, hA3, hK3⟩
          have R1 := Lib.hid hI3
          have R2 := Lib.hid hO3
          have R3 := Lib.hid (hK3.blk hB2.out hgne.symm)
          have R4 := Lib.hid (hAS.out x' hA3)
          have R5 := Lib.hid (hK2.out.trans hK3)
          clear hI3 hO3 hy3 hA3 hK3 m0 m1 d3 d4 d5 d6
          go_wp2
          go_roundw
          case rel => exact ⟨j + 1, x', by omega, by go_num, hx3, R1, R2, R3, R4, R5, hq6⟩
          case measure => (simp [intOf] <;> omega)
        | some z =>
          go_wp2_with fail
          refine hgo.out.mono ?_
          rintro e w' ⟨x', rfl, hI3, hO3, hx3, hy3, hA3, hK3⟩
          have R1 := Lib.hid hI3
          have R2 := Lib.hid hO3
          have R4 := Lib.hid (hAS.out x' hA3)
          have R5 := Lib.hid (hK2.out.trans hK3)
          have R6 := Lib.hid (hy3 z rfl)
          clear hI3 hO3 hy3 hA3 hK3 m0 m1 d3 d4 d5 d6
          go_wp2
          go_ret
          have h := hq6.out
          change some z = q at h
          subst h
          exact ⟨x', rfl, R1.out, R2.out, hx3, (fun y hy => by cases hy; exact R6.out), R4.out, R5.out⟩
      · obtain rfl : j = nc := by omega
        have hqe : Hid (q = none) := Lib.hid (by
          have h := hq3.out
          have hd : cd.drop j = [] := List.drop_eq_nil_of_le (by rw [hnc.out]; exact Nat.le_refl _)
          rw [hd] at h
          exact h.symm)
        go_wp2
        go_ret
        obtain rfl := hqe.out
        exact ⟨x1, rfl, hI1.out, hO1.out, hx1, (fun y hy => by cases hy), hA1.out, hK1.out⟩
end Go.Proofs.YtkfmadeeobalaaaDoor

namespace Go.Proofs.YtkfmadeeobalaaaDoor
open Go.RowKit
set_option linter.unusedVariables false
def resO : Option (List Int) → List Int × Bool
  | some x => (x, true)
  | none => ([], false)
theorem pairwise_of_next {l : List Int} (h : ∀ i, 0 < i → (hi : i < l.length) → l[i - 1]'(by omega) < l[i]) : l.Pairwise (· < ·) := by
  rw [List.pairwise_iff_getElem]
  intro i j hi hj hij
  have : ∀ d, (hd : i + 1 + d < l.length) → l[i] < l[i + 1 + d] := by
    intro d
    induction d with
    | zero => intro hd; have := h (i + 1) (by omega) hd; simpa using this
    | succ d ih =>
      intro hd
      have h1 := ih (by omega)
      have h2 := h (i + 1 + (d + 1)) (by omega) hd
      have e : i + 1 + (d + 1) - 1 = i + 1 + d := by omega
      simp only [e] at h2
      omega
  have := this (j - (i + 1)) (by omega)
  have e : i + 1 + (j - (i + 1)) = j := by omega
  simp only [e] at this
  exact this
theorem freeF_sorted {n : Nat} {free : List Int} (h : freeF n free = 0) : free.Pairwise (· < ·) := by
  refine pairwise_of_next (fun i h0 hi => ?_)
  have := scan_all _ h i hi
  unfold freeBad at this
  rw [getD_elem0 _ _ _ hi, getD_elem0 _ _ _ (by omega : i - 1 < free.length)] at this
  split at this
  · cases this
  · split at this
    · cases this
    · omega
set_option maxHeartbeats 1000000 in
theorem Rfirst_any
  (n : Nat) (a : Option Addr) (cap : Nat) (fs : List Fld) (m : Nat) (ae : Option Addr) (ce : Nat) (es : List Edt) (w : World) (φ : Phi) (hφ : Fz φ w) (s : SlV φ a cap fs) (se : SlV φ ae ce es)
    (ok : PlOk fs es n m) (a1 : Option Addr) (c1 : Nat) (rec : List Int) (sr : SlV φ a1 c1 rec) (hrl : Hid (rec.length = n)) (nf : Nat) (a2 : Option Addr) (c2 : Nat) (free : List Int) (sf : SlV φ a2 c2 free) (hfl : Hid (free.length = nf)) (hmf : nf ≤ 9223372036854775806) (hfr : Hid (∀ k ∈ free, 0 ≤ k ∧ k < (n : Int))) (hso : free.Pairwise (· < ·)) {q : List Int × Bool} (hq : Hid (firstS fs es n m rec free = q)) :
    Calls Tryd.prog 83 #[.agg #[.slice a n cap, .slice ae m ce], .slice a1 n c1, .slice a2 nf c2] w (FirstPost q φ w) := by
  have hn12 := ok.pos
  have hok := Lib.hid ok
  obtain ⟨o, ho⟩ : ∃ o, Hid ((compL fs (free.drop 0) rec).find? (fun x => passB fs es x n m) = o) := ⟨_, Lib.hid rfl⟩
  have hq2 : Hid (resO o = q) := Lib.hid (by rw [← hq.out, firstS_L hfr.out hso, ← ho.out, List.drop_zero]; cases (compL fs free rec).find? (fun x => passB fs es x n m) <;> rfl)
  have hS0 := Lib.hid (BxSt.new hφ #[.slice a n cap, .slice ae m ce] 25)
  have hi0 := Lib.hid ((Inv.start hφ).alloc (.cells #[.slice a n cap, .slice ae m ce] 25))
  go_enter Tryd.func83, Tryd.ntmps83
  go_wp2_with fail
  refine (Clone_n hS0.out.fz sr hrl (by omega)).mono ?_
  rintro e w5 ⟨a5, c5, rfl, hi5, ho5⟩
  have hS5 := Lib.hid (hS0.out.callB hi5.bel)
  have hI5 := Lib.hid (hi0.out.call hi5)
  obtain ⟨g, rfl, hgb, hgl, hgn, _⟩ := ho5.elem (k := 0) (by rw [hrl.out]; omega)
  have hO5 := Lib.hid (ho5.base hi0.out.size)
  have p0 : w5.cell? ⟨w.heap.size, 0, none⟩ = some (.slice a n cap) := hS5.out.k.cell 0
  have p1 : w5.cell? ⟨w.heap.size, 1, none⟩ = some (.slice ae m ce) := hS5.out.k.cell 1
  clear hi5 ho5 hS0 hi0
  go_wp2_with fail
  refine (fill_any n a cap fs m ae ce es s se hok nf a2 c2 free sf hfl hmf hfr nf 0 rfl (Nat.zero_le _) 0 rfl rec w5 hrl hI5.out hO5.out ho).mono ?_
  rintro e w6 ⟨x', rfl, hI6, hO6, hx6, hy6, hA6, hK6⟩
  have R1 := Lib.hid hI6
  have R2 := Lib.hid hO6
  have R3 := Lib.hid hy6
  clear hI6 hO6 hy6 hA6 hK6 p0 p1
  cases o with
  | none =>
    go_wp2
    go_ret2
    have h := hq2.out
    subst h
    exact ⟨φ, none, 0, rfl, R1.out, SlV.empty _⟩
  | some z =>
    obtain ⟨φ3, l3, i3, s3, _⟩ := R2.out.release R1.out
    have I3 := Lib.hid i3
    clear l3 i3
    go_wp2
    go_ret2
    have h := hq2.out
    subst h
    have hz := R3.out z rfl
    subst hz
    exact ⟨φ3, some ⟨g, 0, none⟩, c5, congrArg (fun k => Ending.returned (.tuple #[.slice (some ⟨g, 0, none⟩) k c5, .bool true])) hx6.out.symm, I3.out, s3⟩
/-- slices.Equal of two slices that read as one list. -/
theorem Equal_t (n1 : Nat) (a1 : Option Addr) (c1 : Nat) (xs : List Int) (a2 : Option Addr) (c2 : Nat) (w : World) (φ ψ : Phi) (hφ : Fz φ w) (hψ : Fz ψ w) (s1 : SlV φ a1 c1 xs) (hn1 : Hid (xs.length = n1)) (hm1 : n1 ≤ 9223372036854775807) (s2 : SlV ψ a2 c2 xs) :
    Calls Tryd.prog 12 #[.slice a1 n1 c1, .slice a2 n1 c2] w (fun e w' => e = .returned (.bool true) ∧ Below w.heap.size w w') := by
  have hb1 : ((n1 : Int) != n1) = false := by simp
  go_enter Tryd.func12, Tryd.ntmps12
  go_wp2
  clear hb1
  go_loopw [13] (fun i wr => ∃ k : Nat, k ≤ n1 ∧ i = .int .i64 k ∧ Hid (Below w.heap.size w wr)) (fun i _ => n1 - (intOf i).toNat)
  case atStart => exact ⟨0, Nat.zero_le _, rfl, Lib.hid (Below.refl _ _)⟩
  case round =>
    obtain ⟨k, hk, rfl, hB⟩ := hrel
    by_cases hlt : k < n1
    · obtain ⟨b1, o1, rfl, f1⟩ := s1.intsD hn1 hlt
      have d1 := (f1 k hlt wr (hφ.below hB.out)).2
      obtain ⟨b2, o2, rfl, f2⟩ := s2.intsD hn1 hlt
      have d2 := (f2 k hlt wr (hψ.below hB.out)).2
      clear f1 f2
      generalize xs.getD k 0 = x at *
      have hne : (x != x) = false := by simp
      go_wp2
      go_quiet (fail)
      go_wp2
      go_roundw
      case rel => exact ⟨k + 1, by omega, by go_num, Lib.hid (bdrewN hB.out _)⟩
      case measure => (simp [intOf] <;> omega)
    · obtain rfl : k = n1 := by omega
      go_wp2
      go_ret
      exact ⟨rfl, hB.out⟩
end Go.Proofs.YtkfmadeeobalaaaDoor

namespace Go.Proofs.YtkfmadeeobalaaaDoor
open Go.RowKit
set_option linter.unusedVariables false
theorem SlV.len {α : Type} [Rep α] {φ : Phi} {a : Option Addr} {cap : Nat} {xs : List α} (h : SlV φ a cap xs) : xs.length ≤ 9223372036854775807 := by
  have h1 := h.capn; have h2 := h.capm; unfold maxLen at h2; omega
end Go.Proofs.YtkfmadeeobalaaaDoor

namespace Go.Proofs.YtkfmadeeobalaaaDoor
open Go.RowKit
set_option linter.unusedVariables false
theorem wSum_take {fs : List Fld} {l : List Int} {k : Nat} (hk : k < l.length) : wSum fs (l.take (k + 1)) = wSum fs (l.take k) + wOf fs (l.getD k 0) := by
  rw [take_snoc l k hk, wSum_snoc, getD_elem0 _ _ _ hk]
/-- A set of fields. -/
structure SetG (n : Nat) (l : List Int) : Prop where
  mem : ∀ k ∈ l, 0 ≤ k ∧ k < (n : Int)
  len : l.length ≤ n
set_option maxHeartbeats 1000000 in
theorem Rweight_any
  (n : Nat) (a : Option Addr) (cap : Nat) (fs : List Fld) (m : Nat) (ae : Option Addr) (ce : Nat) (es : List Edt) (ok : Hid (PlOk fs es n m))
    (w : World) (φ : Phi) (hφ : Fz φ w) (s : SlV φ a cap fs) (se : SlV φ ae ce es) (nl : Nat) (al : Option Addr) (cl : Nat) (l : List Int) (sl : SlV φ al cl l) (hl : Hid (l.length = nl)) (hg : Hid (SetG n l)) {q : Int} (hq : Hid (wSum fs l = q)) :
    Calls Tryd.prog 171 #[.agg #[.slice a n cap, .slice ae m ce], .slice al nl cl] w (IntB q w) := by
  have hS0 := Lib.hid (BxSt.new hφ #[.slice a n cap, .slice ae m ce] 25)
  have hn := Lib.hid ok.out.len
  have hn12 := ok.out.pos
  have hml : nl ≤ n := by have := hg.out.len; rw [hl.out] at this; exact this
  go_enter Tryd.func171, Tryd.ntmps171
  go_wp2
  have hF := Lib.hid hS0.out.fz
  have hB := Lib.hid hS0.out.bel
  have p0 : (w.alloc (.cells #[.slice a n cap, .slice ae m ce] 25)).cell? ⟨w.heap.size, 0, none⟩ = some (.slice a n cap) := hS0.out.k.cell 0
  generalize w.alloc (.cells #[.slice a n cap, .slice ae m ce] 25) = W at *
  clear hS0
  go_loop [5, 10] (fun ww i => ∃ k : Nat, k ≤ nl ∧ ww = .int .i64 (wSum fs (l.take k)) ∧ i = .int .i64 k) (fun _ i => nl - (intOf i).toNat)
  case atStart => exact ⟨0, Nat.zero_le _, rfl, rfl⟩
  case round =>
    obtain ⟨k, hk, rfl, rfl⟩ := hrel
    by_cases hlt : k < nl
    · obtain ⟨b1, o1, rfl, f1⟩ := sl.intsD hl hlt
      have d1 := (f1 k hlt W hF.out).2
      have hx := hg.out.mem (l.getD k 0) (by rw [getD_elem0 _ _ _ (by rw [hl.out]; exact hlt)]; exact List.getElem_mem _)
      have hsn := Lib.hid (wSum_take (fs := fs) (l := l) (k := k) (by rw [hl.out]; exact hlt))
      have hbd := wSum_bd (fs := fs) (l := l.take k) (fun j hj => by have h := hg.out.mem j (List.mem_of_mem_take hj); have := wts ok.out h.1 h.2; omega)
      have hlk : (l.take k).length ≤ k := List.length_take_le _ _
      clear f1
      generalize l.getD k 0 = x at *
      generalize (l.take k).length = lk at *
      generalize wSum fs (l.take k) = sw at *
      have hw1 := wts ok.out hx.1 hx.2
      obtain ⟨j, rfl⟩ : ∃ j : Nat, x = j := ⟨x.toNat, by omega⟩
      have hj : j < n := by omega
      obtain ⟨b2, o2, ha, f2⟩ := s.fldD hn hj
      obtain ⟨a4, c4, s4, f4⟩ := f2 j hj
      have d2 := (f4 W hF.out).2.2.2
      have hwk : Hid (wOf fs (j : Int) = (fs.getD j fld0).2.2) := Lib.hid rfl
      rw [hwk.out] at hw1
      subst ha
      clear f2 f4
      generalize (fs.getD j fld0).2.2 = wt at *
      go_wp2
      go_round
      case rel => exact ⟨k + 1, by omega, by rw [hsn.out, hwk.out], by go_num⟩
      case measure => (simp [intOf] <;> omega)
    · obtain rfl : k = nl := by omega
      go_wp2
      go_ret
      exact ⟨ret_int (by rw [← hl.out, List.take_length]; exact hq.out), hB.out⟩
theorem Rweight_S
  (n : Nat) (a : Option Addr) (cap : Nat) (fs : List Fld) (m : Nat) (ae : Option Addr) (ce : Nat) (es : List Edt) (ok : Hid (PlOk fs es n m))
    {w w' : World} {φ : Phi} {bx : Nat} (h : BxSt w φ bx #[.slice a n cap, .slice ae m ce] 25 w') (s : SlV φ a cap fs) (se : SlV φ ae ce es) (nl : Nat) (al : Option Addr) (cl : Nat) (l : List Int) (sl : SlV φ al cl l) (hl : Hid (l.length = nl)) (hg : Hid (SetG n l)) {q : Int} (hq : Hid (wSum fs l = q)) :
    Calls Tryd.prog 171 #[.agg #[.slice a n cap, .slice ae m ce], .slice al nl cl] w' (fun e w2 => e = .returned (.int .i64 q) ∧ w2.cell? ⟨bx, 0, none⟩ = some (.slice a n cap) ∧ w2.cell? ⟨bx, 1, none⟩ = some (.slice ae m ce) ∧ Hid (BxSt w φ bx #[.slice a n cap, .slice ae m ce] 25 w2)) :=
  (Rweight_any n a cap fs m ae ce es ok w' φ h.fz s se nl al cl l sl hl hg hq).mono (fun e w2 h2 => ⟨h2.1, (h.callB h2.2).k.cell 0, (h.callB h2.2).k.cell 1, Lib.hid (h.callB h2.2)⟩)
theorem ahead_eq {fs : List Fld} {x y : List Int} {wx wy q : Int} {nx ny : Nat} (h1 : wSum fs x = wx) (h2 : wSum fs y = wy) (h3 : x.length = nx) (h4 : y.length = ny) (h5 : cmpI x y = q) : ahead fs x y = true ↔ wx < wy ∨ (wx = wy ∧ (nx < ny ∨ (nx = ny ∧ q < 0))) := by
  rw [ahead_iff, h1, h2, h3, h4, h5]
set_option maxHeartbeats 1000000 in
theorem Rahead_any
  (n : Nat) (a : Option Addr) (cap : Nat) (fs : List Fld) (m : Nat) (ae : Option Addr) (ce : Nat) (es : List Edt) (ok : Hid (PlOk fs es n m))
    (w : World) (φ : Phi) (hφ : Fz φ w) (s : SlV φ a cap fs) (se : SlV φ ae ce es) (nx : Nat) (ax : Option Addr) (cx : Nat) (x : List Int) (sx : SlV φ ax cx x) (hx : Hid (x.length = nx)) (hgx : Hid (SetG n x)) (ny : Nat) (ay : Option Addr) (cy : Nat) (y : List Int) (sy : SlV φ ay cy y) (hy : Hid (y.length = ny)) (hgy : Hid (SetG n y)) {b : Bool} (hb : Hid (ahead fs x y = b)) :
    Calls Tryd.prog 163 #[.agg #[.slice a n cap, .slice ae m ce], .slice ax nx cx, .slice ay ny cy] w (BoolB b w) := by
  have hS0 := Lib.hid (BxSt.new hφ #[.slice a n cap, .slice ae m ce] 25)
  have hn12 := ok.out.pos
  obtain ⟨wx, hwx⟩ : ∃ k, Hid (wSum fs x = k) := ⟨_, Lib.hid rfl⟩
  obtain ⟨wy, hwy⟩ : ∃ k, Hid (wSum fs y = k) := ⟨_, Lib.hid rfl⟩
  obtain ⟨q, hq⟩ : ∃ k, Hid (cmpI x y = k) := ⟨_, Lib.hid rfl⟩
  have hbb : Hid (b = true ↔ wx < wy ∨ (wx = wy ∧ (nx < ny ∨ (nx = ny ∧ q < 0)))) := Lib.hid (by rw [← hb.out]; exact ahead_eq hwx.out hwy.out hx.out hy.out hq.out)
  have hxl : nx ≤ n := by have := hgx.out.len; rw [hx.out] at this; exact this
  have hyl : ny ≤ n := by have := hgy.out.len; rw [hy.out] at this; exact this
  go_enter Tryd.func163, Tryd.ntmps163
  go_wp2
  generalize w.alloc (.cells #[.slice a n cap, .slice ae m ce] 25) = W at *
  generalize hbx : w.heap.size = bx at *
  replace hbx := Lib.hid hbx
  have p0 : W.cell? ⟨bx, 0, none⟩ = some (.slice a n cap) := hS0.out.k.cell 0
  have p1 : W.cell? ⟨bx, 1, none⟩ = some (.slice ae m ce) := hS0.out.k.cell 1
  have hSd := Lib.hid (hS0.out.callB ((Below.refl _ _).drew) : BxSt w φ bx #[.slice a n cap, .slice ae m ce] 25 W.drew)
  go_region_held3 (fun w' => w'.cell? ⟨bx, 0, none⟩ = some (.slice a n cap) ∧ w'.cell? ⟨bx, 1, none⟩ = some (.slice ae m ce) ∧ Hid (BxSt w φ bx #[.slice a n cap, .slice ae m ce] 25 w')) (first | exact ⟨p0, p1, hS0⟩ | exact ⟨p0, p1, hSd⟩ | exact ⟨by assumption, by assumption, by assumption⟩) (first | ((with_reducible refine (Rweight_S n a cap fs m ae ce es ok (Hid.out (by assumption)) s se nx ax cx x sx hx hgx hwx).mono ?_); rintro e w' ⟨rfl, y0, y1, y2⟩) | ((with_reducible refine (Rweight_S n a cap fs m ae ce es ok (Hid.out (by assumption)) s se ny ay cy y sy hy hgy hwy).mono ?_); rintro e w' ⟨rfl, y0, y1, y2⟩))
  rename World => W2
  have hS2 : Hid (BxSt w φ bx #[.slice a n cap, .slice ae m ce] 25 W2) := by assumption
  have hB2 := Lib.hid hS2.out.bel
  have hF2 := Lib.hid hS2.out.fz
  rw [hbx.out] at hB2
  clear p0 p1 hS0 hSd hS2
  by_cases h1 : wx = wy
  · subst h1
    have g1 : (wx != wx) = false := by simp
    by_cases h2 : nx = ny
    · subst h2
      have g2 : ((nx : Int) != nx) = false := by simp
      go_wp2_with (go_at_call 71; refine (Compare_any nx ax cx x nx ay cy y W2 φ φ hF2.out hF2.out sx hx (by omega) sy hy (by omega) hq).mono ?_; rintro e w' ⟨rfl, rfl⟩)
      go_ret
      exact ⟨ret_bool (by rw [Bool.eq_iff_iff, hbb.out]; simp), by rw [hbx.out]; exact hB2.out⟩
    · have g2 : ((nx : Int) != ny) = true := by simp; omega
      go_wp2
      go_ret
      exact ⟨ret_bool (by rw [Bool.eq_iff_iff, hbb.out]; simp [h2]), by rw [hbx.out]; exact hB2.out⟩
  · have g1 : (wx != wy) = true := by simp [h1]
    go_wp2
    go_ret
    exact ⟨ret_bool (by rw [Bool.eq_iff_iff, hbb.out]; simp [h1]), by rw [hbx.out]; exact hB2.out⟩
end Go.Proofs.YtkfmadeeobalaaaDoor
