/- The walks of the reference's fill, first, First. Conditions: the library's table of blanks reads as it was laid. -/
import Derived.Test.YtambgcijceecpaaDoorQ5
namespace Go.Proofs.YtambgcijceecpaaDoor
open Go.RowKit
set_option linter.unusedVariables false

/-- Completions along a list of free fields. -/
def compL (fs : List Fld) : List Int → List Int → List (List Int)
  | [], x => [x]
  | j :: r, x => (fs.getD j.toNat fld0).2.1.flatMap (fun c => compL fs r (x.set j.toNat c))
theorem comps_L {fs : List Fld} {free : List Bool} : ∀ {r f : Nat} {F x : List Int}, F.Pairwise (· < ·) → (∀ k ∈ F, (f : Int) ≤ k ∧ k < f + r) → (∀ i, f ≤ i → i < f + r → (free.getD i false = true ↔ (i : Int) ∈ F)) → comps fs free r f x = compL fs F x
  | 0, f, [], x, _, _, _ => rfl
  | 0, f, k :: F, x, _, h, _ => by have := h k (by simp); omega
  | r + 1, f, F, x, hs, hr, hf => by
    by_cases hb : free.getD f false = true
    · have hm := (hf f (Nat.le_refl _) (by omega)).1 hb
      cases F with
      | nil => simp at hm
      | cons k F' =>
        rw [List.pairwise_cons] at hs
        have hk : k = (f : Int) := by
          rcases List.mem_cons.1 hm with h | h
          · exact h.symm
          · have := hs.1 _ h
            have := (hr k (by simp)).1
            omega
        subst hk
        rw [comps, if_pos hb, compL]
        congr 1
        funext c
        refine comps_L hs.2 (fun k hk => ?_) (fun i h1 h2 => ?_)
        · have := hs.1 k hk
          have := hr k (by simp [hk])
          omega
        · rw [hf i (by omega) (by omega), List.mem_cons]
          constructor
          · rintro (h | h)
            · omega
            · exact h
          · exact .inr
    · have hm : ¬ (f : Int) ∈ F := fun h => hb ((hf f (Nat.le_refl _) (by omega)).2 h)
      rw [comps, if_neg hb]
      refine comps_L hs (fun k hk => ?_) (fun i h1 h2 => hf i (by omega) (by omega))
      have := hr k hk
      have : k ≠ f := fun e => hm (e ▸ hk)
      omega
theorem firstS_L {fs : List Fld} {es : List Edt} {n m : Nat} {rec free : List Int} (h1 : ∀ k ∈ free, 0 ≤ k ∧ k < n) (h2 : free.Pairwise (· < ·)) :
    firstS fs es n m rec free = match (compL fs free rec).find? (fun x => passB fs es x n m) with | some x => (x, true) | none => ([], false) := by
  unfold firstS
  rw [foldU_first, comps_L (F := free) h2 (fun k hk => by have := h1 k hk; omega) (fun i _ hi => by rw [frB_get (by omega)]; simp)]
  cases (compL fs free rec).find? (fun x => passB fs es x n m) <;> rfl
def Agr (x x' F : List Int) : Prop := ∀ j : Nat, (j : Int) ∉ F → x'.getD j 0 = x.getD j 0
theorem compL_agr {fs : List Fld} : ∀ {F x x' : List Int}, x'.length = x.length → (∀ k ∈ F, 0 ≤ k) → Agr x x' F → compL fs F x' = compL fs F x
  | [], x, x', hl, _, h => by
    rw [compL, compL, ext_getD hl (fun i hi => h i (by simp))]
  | k :: F, x, x', hl, h0, h => by
    rw [compL, compL]
    congr 1
    funext c
    refine compL_agr (by rw [List.length_set, List.length_set, hl]) (fun j hj => h0 j (by simp [hj])) (fun j hj => ?_)
    rw [getD_set, getD_set, hl]
    by_cases e : j = k.toNat
    · by_cases e2 : k.toNat < x.length
      · rw [if_pos ⟨e, e2⟩, if_pos ⟨e, e2⟩]
      · rw [if_neg (fun q => e2 q.2), if_neg (fun q => e2 q.2)]
        have h1 : x'.length ≤ j := by omega
        have h2 : x.length ≤ j := by omega
        simp [List.getD_eq_getElem?_getD, List.getElem?_eq_none h1, List.getElem?_eq_none h2]
    · rw [if_neg (fun q => e q.1), if_neg (fun q => e q.1)]
      refine h j (fun hm => ?_)
      rcases List.mem_cons.1 hm with hm | hm
      · have := h0 k (by simp); omega
      · exact hj hm
theorem drop_consD {l : List Int} {k : Nat} (h : k < l.length) : l.drop k = l.getD k 0 :: l.drop (k + 1) := drop_getD h
/-- All that was there is as it was, but for block g. -/
def Keep (g : Nat) (w w' : World) : Prop := w.heap.size ≤ w'.heap.size ∧ ∀ b, b < w.heap.size → b ≠ g → w'.heap[b]? = w.heap[b]?
theorem Keep.refl (g : Nat) (w : World) : Keep g w w := ⟨Nat.le_refl _, fun _ _ _ => rfl⟩
theorem Keep.trans {g : Nat} {a b c : World} (h : Keep g a b) (k : Keep g b c) : Keep g a c := ⟨Nat.le_trans h.1 k.1, fun x hx hg => (k.2 x (Nat.lt_of_lt_of_le hx h.1) hg).trans (h.2 x hx hg)⟩
theorem Keep.below {g : Nat} {a b : World} (h : Below a.heap.size a b) : Keep g a b := ⟨h.size, fun x hx _ => h.block x hx⟩
theorem Keep.set (g k : Nat) (w : World) (v : Value) : Keep g w (w.setCell ⟨g, k, none⟩ v) := ⟨(grown_set w g k v).size, fun x hx hg => (grown_set w g k v).block x hx (fun e => hg (Option.some.inj e))⟩
theorem Keep.blk {g : Nat} {a b : World} (h : Keep g a b) {x : Nat} {cs : Array Value} {T : TypeId} (hb : Blk a x cs T) (hne : x ≠ g) : Blk b x cs T := (h.2 x hb.lt hne).trans hb
def FillPost (w : World) (B : Nat) (w0 : World) (φ : Phi) (g c n : Nat) (x F : List Int) (q : Option (List Int)) (e : Ending) (w' : World) : Prop :=
  ∃ x', e = .returned (.bool q.isSome) ∧ Inv B w0 φ φ w' ∧ Own B φ w' 3 (some ⟨g, 0, none⟩) c x' ∧ Hid (x'.length = n) ∧ (∀ y, q = some y → x' = y) ∧ Agr x x' F ∧ Keep g w w'
set_option maxRecDepth 100000 in
set_option maxHeartbeats 2000000 in
theorem fill_any
  (n : Nat) (a : Option Addr) (cap : Nat) (fs : List Fld) (m : Nat) (ae : Option Addr) (ce : Nat) (es : List Edt) {φ : Phi} (s : SlV φ a cap fs) (se : SlV φ ae ce es)
    (hok : Hid (PlOk fs es n m)) {B : Nat} {w0 : World} {g c : Nat} (nf : Nat) (a2 : Option Addr) (c2 : Nat) (free : List Int) (sf : SlV φ a2 c2 free) (hfl : Hid (free.length = nf)) (hmf : nf ≤ 9223372036854775806) (hfr : Hid (∀ k ∈ free, 0 ≤ k ∧ k < (n : Int))) :
    ∀ (r k : Nat), nf - k = r → k ≤ nf → ∀ (ki : Int), ki = (k : Int) → ∀ (x : List Int) (w : World), Hid (x.length = n) → Inv B w0 φ φ w → Own B φ w 3 (some ⟨g, 0, none⟩) c x → ∀ {q : Option (List Int)}, Hid ((compL fs (free.drop k) x).find? (fun x => passB fs es x n m) = q) →
    Calls Tryd.prog 71 #[.agg #[.slice a n cap, .slice ae m ce], .slice (some ⟨g, 0, none⟩) n c, .slice a2 nf c2, .int .i64 ki] w (FillPost w B w0 φ g c n x (free.drop k) q) := by
  intro r
  induction r with
  | zero =>
    intro k hr hle ki hki x w hx hI hO q hq
    subst hki
    obtain rfl : k = nf := by omega
    have hq2 : Hid ((if passB fs es x n m = true then some x else none) = q) := Lib.hid (by
      have h := hq.out
      rw [List.drop_eq_nil_of_le (by rw [hfl.out]; exact Nat.le_refl _), compL, List.find?_cons] at h
      rw [← h]
      cases passB fs es x n m <;> rfl)
    have HI := Lib.hid (hI.alloc (.cells #[.slice a n cap, .slice ae m ce] 25))
    have HO := Lib.hid (hO.alloc (.cells #[.slice a n cap, .slice ae m ce] 25))
    obtain ⟨φx, hle2, hix, sx, _⟩ := HO.out.release HI.out
    have HX := Lib.hid hix.fz
    have s2 := s.mono hle2
    have se2 := se.mono hle2
    obtain ⟨p, hp⟩ : ∃ p, Hid (passB fs es x n m = p) := ⟨_, Lib.hid rfl⟩
    have heq : ((k : Int) == k) = true := by simp
    clear hI hO hle2 hix
    go_enter Tryd.func71, Tryd.ntmps71
    go_wp2_with fail
    refine (Rpasses_any n a cap fs m ae ce es _ φx HX.out s2 se2 hok.out _ c x sx hx hp).mono ?_
    rintro e w1 ⟨rfl, hb1⟩
    have HI2 := Lib.hid (HI.out.callB hb1)
    have HO2 := Lib.hid (HO.out.callB hb1)
    have HK := Lib.hid (((Keep.below ((Below.refl _ _).alloc (Nat.le_refl _) _)).trans (Keep.below hb1) : Keep g w w1))
    clear hb1 HI HO
    go_wp2
    go_ret
    have h := hq2.out
    rw [hp.out] at h
    cases p
    · rw [if_neg (by simp)] at h
      subst h
      exact ⟨x, rfl, HI2.out, HO2.out, hx, (fun y hy => by cases hy), (fun j _ => rfl), HK.out⟩
    · rw [if_pos rfl] at h
      subst h
      exact ⟨x, rfl, HI2.out, HO2.out, hx, (fun y hy => by cases hy; rfl), (fun j _ => rfl), HK.out⟩
  | succ r ih =>
    intro k hr hle ki hki x w hx hI hO q hq
    subst hki
    have hlt : k < nf := by omega
    have IH := Lib.hid ih
    clear ih
    have hk0 := hfr.out (free.getD k 0) (by rw [getD_elem0 _ _ _ (by rw [hfl.out]; exact hlt)]; exact List.getElem_mem _)
    have hdc := Lib.hid (drop_consD (l := free) (k := k) (by rw [hfl.out]; exact hlt))
    have hF0 := Lib.hid (fun j (hj : j ∈ free.drop (k + 1)) => (hfr.out j (List.mem_of_mem_drop hj)).1)
    obtain ⟨b2, o2, rfl, f2⟩ := sf.intsD hfl hlt
    have HI := Lib.hid (hI.alloc (.cells #[.slice a n cap, .slice ae m ce] 25))
    have HO := Lib.hid (hO.alloc (.cells #[.slice a n cap, .slice ae m ce] 25))
    have hBx := Lib.hid (Blk.new w #[.slice a n cap, .slice ae m ce] 25)
    have hfx := Lib.hid (f2 k hlt)
    clear f2 hI hO
    generalize free.getD k 0 = p0 at *
    obtain ⟨p, rfl⟩ : ∃ p : Nat, p0 = p := ⟨p0.toNat, by omega⟩
    have hp : p < n := by omega
    have hgx : g < w.heap.size + 1 := by have := (HO.out.lt _ rfl).2; rw [alloc_size] at this; exact this
    have hgne : g ≠ w.heap.size := by
      intro e
      obtain ⟨g', hg', _, fO⟩ := HO.out.intsD hx hp
      cases hg'
      have h1 := (fO p hp).1
      have h2 := hBx.out.cell p
      rw [← e] at h2
      rw [h1] at h2
      cases p with
      | zero => simp at h2
      | succ p => cases p with
        | zero => simp at h2
        | succ p => simp at h2
    have hfl2 := Lib.hid hok.out.len
    obtain ⟨b3, o3, ha3, f3⟩ := s.fldD hfl2 hp
    obtain ⟨a4, c4, s4, f4⟩ := f3 p hp
    have hf4 := Lib.hid f4
    have hcl := (fieldF_zero (fldBad_zero (hok.out.fld p hp)).2.2).2.1
    have hq2 : Hid (((fs.getD p fld0).2.1.flatMap (fun y => compL fs (free.drop (k + 1)) (x.set p y))).find? (fun x => passB fs es x n m) = q) := Lib.hid (by
      have h := hq.out
      rw [hdc.out, compL] at h
      exact h)
    clear f3 f4
    subst ha3
    generalize (fs.getD p fld0).2.1 = cd at *
    obtain ⟨nc, hnc⟩ : ∃ nc, Hid (cd.length = nc) := ⟨_, Lib.hid rfl⟩
    rw [hnc.out] at hcl
    have e3 := s4.capn
    have e4 := s4.capm
    rw [hnc.out] at e3
    unfold maxLen at e4
    have hne : ((k : Int) == nf) = false := by simp; omega
    go_enter Tryd.func71, Tryd.ntmps71
    go_wp2
    have d1 := (hfx.out _ HI.out.fz).2
    have d2 := (hf4.out _ HI.out.fz).2.2.1
    rw [hnc.out] at d2
    have d3 := hBx.out.cell 0
    have HK := Lib.hid ((Keep.below ((Below.refl _ _).alloc (Nat.le_refl _) (.cells #[.slice (some ⟨b3, o3, none⟩) n cap, .slice ae m ce] 25)) : Keep g w _))
    generalize hW : w.alloc (.cells #[.slice (some ⟨b3, o3, none⟩) n cap, .slice ae m ce] 25) = W at *
    generalize w.heap.size = bx at *
    clear hW
    have d3' : W.cell? ⟨bx, 0, none⟩ = some (.slice (some ⟨b3, o3, none⟩) n cap) := d3
    clear d3
    go_quiet (fail)
    go_wp2
    have HI2 := Lib.hid (HI.out.drewN nq)
    have HO2 := Lib.hid (HO.out.drewN nq)
    have hBx2 : Hid (Blk (W.drewN nq) bx #[.slice (some ⟨b3, o3, none⟩) n cap, .slice ae m ce] 25) := hBx
    have HK2 : Hid (Keep g w (W.drewN nq)) := HK
    generalize W.drewN nq = V at *
    clear d1 d2 d3' HI HO hBx hne
    go_loopw [28] (fun i wr => ∃ (j : Nat) (x1 : List Int), j ≤ nc ∧ i = .int .i64 j ∧ Hid (x1.length = n) ∧ Hid (Inv B w0 φ φ wr) ∧ Hid (Own B φ wr 3 (some ⟨g, 0, none⟩) c x1) ∧ Hid (Blk wr bx #[.slice (some ⟨b3, o3, none⟩) n cap, .slice ae m ce] 25) ∧ Hid (Agr x x1 (free.drop k)) ∧ Hid (Keep g w wr) ∧ Hid (((cd.drop j).flatMap (fun y => compL fs (free.drop (k + 1)) (x.set p y))).find? (fun x => passB fs es x n m) = q)) (fun i _ => nc - (intOf i).toNat)
    case atStart => exact ⟨0, x, Nat.zero_le _, rfl, hx, HI2, HO2, hBx2, Lib.hid (fun j _ => rfl), HK2, Lib.hid (by rw [List.drop_zero]; exact hq2.out)⟩
    case round =>
      clear HI2 HO2 hBx2 hq2
      obtain ⟨j, x1, hj, rfl, hx1, hI1, hO1, hB1, hA1, hK1, hq3⟩ := hrel
      by_cases hjl : j < nc
      · obtain ⟨b5, o5, ha5, f5⟩ := s4.intsD hnc hjl
        have d5 := (f5 j hjl wr hI1.out.fz).2
        subst ha5
        clear f5
        obtain ⟨g', hg', hglt1, fO⟩ := hO1.out.intsD hx1 hp
        cases hg'
        obtain ⟨d3, d4, hst⟩ := fO p hp
        have HST := Lib.hid hst
        clear fO hst
        have d6 := (hfx.out wr hI1.out.fz).2
        have hq4 : Hid ((compL fs (free.drop (k + 1)) (x.set p (cd.getD j 0)) ++ (cd.drop (j + 1)).flatMap (fun y => compL fs (free.drop (k + 1)) (x.set p y))).find? (fun x => passB fs es x n m) = q) := Lib.hid (by
          have h := hq3.out
          rw [drop_getD (d := 0) (l := cd) (k := j) (by rw [hnc.out]; exact hjl), List.flatMap_cons] at h
          exact h)
        generalize cd.getD j 0 = y at *
        have hag : Hid (compL fs (free.drop (k + 1)) (x1.set p y) = compL fs (free.drop (k + 1)) (x.set p y)) := Lib.hid (compL_agr (by rw [List.length_set, List.length_set, hx1.out, hx.out]) hF0.out (fun i hi => by
          rw [getD_set, getD_set, hx1.out, hx.out]
          by_cases e : i = p
          · rw [if_pos ⟨e, hp⟩, if_pos ⟨e, hp⟩]
          · rw [if_neg (fun q => e q.1), if_neg (fun q => e q.1)]
            refine hA1.out i (fun hm => ?_)
            rw [hdc.out] at hm
            rcases List.mem_cons.1 hm with hm | hm
            · omega
            · exact hi hm))
        obtain ⟨q2, hq5⟩ : ∃ q2, Hid ((compL fs (free.drop (k + 1)) (x1.set p y)).find? (fun x => passB fs es x n m) = q2) := ⟨_, Lib.hid rfl⟩
        have hq6 : Hid (q2.or (((cd.drop (j + 1)).flatMap (fun y => compL fs (free.drop (k + 1)) (x.set p y))).find? (fun x => passB fs es x n m)) = q) := Lib.hid (by
          have h := hq4.out
          rw [List.find?_append, ← hag.out, hq5.out] at h
          exact h)
        have hO2 := Lib.hid (HST.out y w0 φ hI1.out).1
        have hI2 := Lib.hid (HST.out y w0 φ hI1.out).2
        have hB2 := Lib.hid (hB1.out.other (a := ⟨g, p, none⟩) hgne (.int .i64 y))
        have hlen : Hid ((x1.set p y).length = n) := Lib.hid (by rw [List.length_set]; exact hx1.out)
        have hgo := Lib.hid (IH.out (k + 1) (by omega) (by omega) ((k : Int) + 1) (by omega) (x1.set p y) _ hlen hI2.out hO2.out hq5)
        have m0 := hB2.out.cell 0
        have m1 := hB2.out.cell 1
        have hAS : Hid (∀ x', Agr (x1.set p y) x' (free.drop (k + 1)) → Agr x x' (free.drop k)) := Lib.hid (fun x' h i hi => by
          rw [hdc.out] at hi
          rw [h i (fun hm => hi (by simp [hm])), getD_set, if_neg (fun q => hi (by simp [q.1]))]
          exact hA1.out i (by rw [hdc.out]; exact hi))
        have hK2 := Lib.hid (hK1.out.trans (Keep.set g p wr (.int .i64 y)))
        clear hq4 hq5 hag HST
        cases q2 with
        | none =>
          go_wp2_with fail
          refine hgo.out.mono ?_
          rintro e w' ⟨x', rfl, hI3, hO3, hx3, hy3, hA3, hK3⟩
          have R1 := Lib.hid hI3
          have R2 := Lib.hid hO3
          have R3 := Lib.hid (hK3.blk hB2.out hgne.symm)
          have R4 := Lib.hid (hAS.out x' hA3)
          have R5 := Lib.hid (hK2.out.trans hK3)
          clear hI3 hO3 hy3 hA3 hK3 m0 m1 d3 d4 d5 d6
          go_wp2
          go_roundw
          case rel => exact ⟨j + 1, x', by omega, by go_num, hx3, R1, R2, R3, R4, R5, hq6⟩
          case measure => simp [intOf]; omega
        | some z =>
          go_wp2_with fail
          refine hgo.out.mono ?_
          rintro e w' ⟨x', rfl, hI3, hO3, hx3, hy3, hA3, hK3⟩
          have R1 := Lib.hid hI3
          have R2 := Lib.hid hO3
          have R4 := Lib.hid (hAS.out x' hA3)
          have R5 := Lib.hid (hK2.out.trans hK3)
          have R6 := Lib.hid (hy3 z rfl)
          clear hI3 hO3 hy3 hA3 hK3 m0 m1 d3 d4 d5 d6
          go_wp2
          go_ret
          have h := hq6.out
          change some z = q at h
          subst h
          exact ⟨x', rfl, R1.out, R2.out, hx3, (fun y hy => by cases hy; exact R6.out), R4.out, R5.out⟩
      · obtain rfl : j = nc := by omega
        have hqe : Hid (q = none) := Lib.hid (by
          have h := hq3.out
          have hd : cd.drop j = [] := List.drop_eq_nil_of_le (by rw [hnc.out]; exact Nat.le_refl _)
          rw [hd] at h
          exact h.symm)
        go_wp2
        go_ret
        obtain rfl := hqe.out
        exact ⟨x1, rfl, hI1.out, hO1.out, hx1, (fun y hy => by cases hy), hA1.out, hK1.out⟩
end Go.Proofs.YtambgcijceecpaaDoor
