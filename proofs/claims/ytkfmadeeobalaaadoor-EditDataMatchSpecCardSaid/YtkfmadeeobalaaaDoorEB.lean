/- The walk of each, once for each closure that is handed to it. What the searches over records compute: the completions of a record, the first one that passes, the lightest fields. The walks of slices.Compare, slices.Clone, apart, the closure of first, first. A slice of the call's own in a captured cell, next to a row that is written; the walks of the closure of first, and of first. Conditions: none beyond what the claim form gives. -/
import Derived.Test.YtkfmadeeobalaaaDoorEA
import Derived.Deep.RegionWith
namespace Go.Proofs.YtkfmadeeobalaaaDoor
open Go.RowKit
set_option linter.unusedVariables false

theorem set_getD {x : List Int} {k : Nat} (h : k < x.length) : x.set k (x.getD k 0) = x := by
  rw [getD_elem0 _ _ _ h]; exact List.set_getElem_self h
set_option maxRecDepth 100000 in
set_option maxHeartbeats 2000000 in
theorem each_first
  {φ : Phi} {br : Nat} {fs : List Fld} {es : List Edt} {n m : Nat} {a : Option Addr} {cap : Nat} {ae : Option Addr} {ce : Nat} {ab : Option Addr} {cb : Nat} (R : RulV φ br fs es n m a cap ae ce ab cb)
    {σ : Type} {J : σ → World → Prop} {V : List Int → σ → σ × Bool} {B : Nat} {w0 : World} {g c : Nat} {af : Option Addr} {cf : Nat} {free : List Bool} (sf : SlV φ af cf free) (hfr : Hid (free.length = n)) {p1 p2 : Nat}
    (hi : ∀ s w, J s w → Inv B w0 φ φ w) (hset : ∀ s w k v, J s w → J s (w.setCell ⟨g, k, none⟩ v))
    (hV : ∀ x s w, Hid (x.length = n) → J s w → Own B φ w 3 (some ⟨g, 0, none⟩) c x → Calls Tryd.prog 112 #[.slice (some ⟨g, 0, none⟩) n c, .pointer (some ⟨p1, 0, none⟩), .pointer (some ⟨p2, 0, none⟩)] w (fun e w' => e = .returned (.bool (V x s).2) ∧ J (V x s).1 w' ∧ Own B φ w' 3 (some ⟨g, 0, none⟩) c x)) :
    ∀ (r f : Nat), n - f = r → f ≤ n → ∀ (fi : Int), fi = (f : Int) → ∀ x s w, Hid (x.length = n) → J s w → Own B φ w 3 (some ⟨g, 0, none⟩) c x → ∀ {q : σ × Bool}, Hid (foldU V (comps fs free (n - f) f x) s = q) →
    Calls Tryd.prog 68 #[.pointer (some ⟨br, 0, none⟩), .slice (some ⟨g, 0, none⟩) n c, .slice af n cf, .int .i64 fi, .func (.func 112) #[] #[.pointer (some ⟨p1, 0, none⟩), .pointer (some ⟨p2, 0, none⟩)]] w
      (fun e w' => ∃ x', e = .returned (.bool q.2) ∧ Hid (x'.length = n) ∧ J q.1 w' ∧ Own B φ w' 3 (some ⟨g, 0, none⟩) c x' ∧ (q.2 = false → x' = x)) := by
  intro r
  induction r using Nat.strongRecOn with
  | ind r ih =>
  intro f hr hle fi hfi x s w hx hJ hO q hq
  subst hfi
  have hI := Lib.hid (hi s w hJ)
  have hn12 := R.ok.pos
  have r0 : w.cell? ⟨br, 0, none⟩ = some (.slice a n cap) := (R.blk hI.out.fz).cell 0
  have hJH := Lib.hid hJ
  have hOH := Lib.hid hO
  have IH := Lib.hid ih
  clear hJ hO ih
  go_enter Tryd.func68, Tryd.ntmps68
  go_wp2
  go_loop [3] (fun i => ∃ k : Nat, f ≤ k ∧ k ≤ n ∧ i = .int .i64 k ∧ Hid (∀ i, f ≤ i → i < k → free.getD i false = false)) (fun i => n - (intOf i).toNat)
  case atStart => exact ⟨f, Nat.le_refl _, hle, rfl, Lib.hid (fun i h1 h2 => by omega)⟩
  case round =>
    obtain ⟨k, hfk, hk, rfl, hok⟩ := hrel
    by_cases hlt : k < n
    · obtain ⟨b1, o1, ha, f1⟩ := sf.boolsD hfr hlt
      have d1 := (f1 k hlt w hI.out.fz).2
      subst ha
      clear f1
      obtain ⟨fb, hfb⟩ : ∃ fb, Hid (free.getD k false = fb) := ⟨_, Lib.hid rfl⟩
      rw [hfb.out] at d1
      cases fb
      case false =>
        clear r0
        go_wp2
        go_round
        case rel => exact ⟨k + 1, by omega, by omega, by go_num, Lib.hid (fun i h1 h2 => by
          by_cases e : i = k
          · subst e; exact hfb.out
          · exact hok.out i h1 (by omega))⟩
        case measure => (simp [intOf] <;> omega)
      case true =>
        have hq2 : Hid (foldU V ((fs.getD k fld0).2.1.flatMap (fun y => comps fs free (n - (k + 1)) (k + 1) (x.set k y))) s = q) := Lib.hid (by
          have h := hq.out
          rw [comps_to hfk (by omega) hok.out, show n - k = (n - (k + 1)) + 1 by omega, comps, if_pos hfb.out] at h
          exact h)
        have hfl := Lib.hid R.ok.len
        obtain ⟨b2, o2, ha2, f2⟩ := R.fv.fldD hfl hlt
        obtain ⟨a3, c3, s3, f2⟩ := f2 k hlt
        have d2 := (f2 w hI.out.fz).2.2.1
        have hcl := (fieldF_zero (fldBad_zero (R.ok.fld k hlt)).2.2).2.1
        subst ha2
        clear f2
        generalize (fs.getD k fld0).2.1 = cd at *
        obtain ⟨nc, hnc⟩ : ∃ nc, Hid (cd.length = nc) := ⟨_, Lib.hid rfl⟩
        rw [hnc.out] at d2 hcl
        have e3 := s3.capn
        have e4 := s3.capm
        rw [hnc.out] at e3
        unfold maxLen at e4
        obtain ⟨g', hg', hglt, fO⟩ := hOH.out.intsD hx hlt
        cases hg'
        have d3 := (fO k hlt).1
        clear fO
        generalize hold : x.getD k 0 = old at *
        replace hold := Lib.hid hold
        have hne : ((k : Int) == n) = false := by simp; omega
        go_wp2
        clear d1 d2 d3 r0 hne
        go_loopw [48] (fun i wr => ∃ (j : Nat) (x1 : List Int) (s1 : σ), j ≤ nc ∧ i = .int .i64 j ∧ Hid (x1.length = n) ∧ Hid (J s1 wr) ∧ Hid (Own B φ wr 3 (some ⟨g, 0, none⟩) c x1) ∧ Hid (∀ y, x1.set k y = x.set k y) ∧ Hid (foldU V ((cd.drop j).flatMap (fun y => comps fs free (n - (k + 1)) (k + 1) (x.set k y))) s1 = q)) (fun i _ => nc - (intOf i).toNat)
        case atStart => exact ⟨0, x, s, Nat.zero_le _, rfl, hx, hJH, hOH, Lib.hid (fun _ => rfl), Lib.hid (by rw [List.drop_zero]; exact hq2.out)⟩
        case round =>
          clear hJH hOH hI hq2
          obtain ⟨j, x1, s1, hj, rfl, hx1, hJ1, hO1, hx2, hq3⟩ := hrel
          have hI1 := Lib.hid (hi s1 wr hJ1.out)
          obtain ⟨g', hg', hglt1, fO⟩ := hO1.out.intsD hx1 hlt
          cases hg'
          obtain ⟨d3, d4, hst⟩ := fO k hlt
          have HST := Lib.hid hst
          clear fO hst
          by_cases hjl : j < nc
          · obtain ⟨b4, o4, ha4, f4⟩ := s3.intsD hnc hjl
            have d5 := (f4 j hjl wr hI1.out.fz).2
            subst ha4
            clear f4
            have hq4 : Hid (foldU V (comps fs free (n - (k + 1)) (k + 1) (x.set k (cd.getD j 0)) ++ (cd.drop (j + 1)).flatMap (fun y => comps fs free (n - (k + 1)) (k + 1) (x.set k y))) s1 = q) := Lib.hid (by
              have h := hq3.out
              rw [drop_getD (d := 0) (by rw [hnc.out]; exact hjl), List.flatMap_cons] at h
              exact h)
            generalize cd.getD j 0 = y at *
            obtain ⟨q2, hq5⟩ : ∃ q2, Hid (foldU V (comps fs free (n - (k + 1)) (k + 1) (x.set k y)) s1 = q2) := ⟨_, Lib.hid rfl⟩
            obtain ⟨s2, bb⟩ := q2
            have hq6 : Hid ((if bb = true then (s2, true) else foldU V ((cd.drop (j + 1)).flatMap (fun y => comps fs free (n - (k + 1)) (k + 1) (x.set k y))) s2) = q) := Lib.hid (by
              have h := hq4.out
              rw [foldU_append, hq5.out] at h
              exact h)
            have hO2 := Lib.hid (HST.out y w0 φ hI1.out).1
            rw [hx2.out y] at hO2
            have hJ2 := Lib.hid (hset s1 wr k (.int .i64 y) hJ1.out)
            have hlen : Hid ((x.set k y).length = n) := Lib.hid (by rw [List.length_set]; exact hx.out)
            have hgo := IH.out (n - (k + 1)) (by omega) (k + 1) rfl (by omega) ((k : Int) + 1) (by omega) (x.set k y) s1 _ hlen hJ2.out hO2.out hq5
            have HGO := Lib.hid hgo
            clear hgo hq4 hq5
            cases bb
            · go_wp2_with (go_at_call 68; refine HGO.out.mono ?_; rintro e w' ⟨x', rfl, hx', hJ', hO', hxx⟩)
              go_roundw
              case rel =>
                obtain rfl := hxx (by first | trivial | rfl)
                exact ⟨j + 1, _, s2, by omega, by go_num, hlen, Lib.hid hJ', Lib.hid hO', Lib.hid (fun z => by rw [List.set_set]), Lib.hid (by have h := hq6.out; rw [if_neg (by simp)] at h; exact h)⟩
              case measure => (simp [intOf] <;> omega)
            · go_wp2_with (go_at_call 68; refine HGO.out.mono ?_; rintro e w' ⟨x', rfl, hx', hJ', hO', hxx⟩)
              go_ret
              have h := hq6.out
              simp only [if_true] at h
              subst h
              exact ⟨x', rfl, hx', hJ', hO', fun h => by cases h⟩
          · obtain rfl : j = nc := by omega
            have hqe : q = (s1, false) := by
              have h := hq3.out
              rw [List.drop_eq_nil_of_le (by rw [hnc.out]; exact Nat.le_refl _)] at h
              exact h.symm
            have HQ := Lib.hid hqe
            clear hqe
            have hO2 := Lib.hid (HST.out old w0 φ hI1.out).1
            rw [hx2.out old, ← hold.out, set_getD (by rw [hx.out]; exact hlt), hold.out] at hO2
            have hJ2 := Lib.hid (hset s1 wr k (.int .i64 old) hJ1.out)
            go_wp2
            go_ret
            obtain rfl := HQ.out
            exact ⟨x, rfl, hx, hJ2.out, hO2.out, fun _ => rfl⟩
    · obtain rfl : k = n := by omega
      have hq2 : Hid (V x s = q) := Lib.hid (by
        have h := hq.out
        rw [comps_to hfk (Nat.le_refl _) hok.out, Nat.sub_self, comps, foldU_one] at h
        exact h)
      have hgo := Lib.hid (hV x s w hx hJH.out hOH.out)
      rw [hq2.out] at hgo
      have heq : ((k : Int) == k) = true := by simp
      clear r0
      go_wp2_with (go_at_call 112; refine hgo.out.mono ?_; rintro e w' ⟨rfl, hJ', hO'⟩)
      go_ret
      exact ⟨x, rfl, hx, hJ', hO', fun _ => rfl⟩
set_option maxRecDepth 100000 in
set_option maxHeartbeats 2000000 in
theorem each_least
  {φ : Phi} {br : Nat} {fs : List Fld} {es : List Edt} {n m : Nat} {a : Option Addr} {cap : Nat} {ae : Option Addr} {ce : Nat} {ab : Option Addr} {cb : Nat} (R : RulV φ br fs es n m a cap ae ce ab cb)
    {σ : Type} {J : σ → World → Prop} {V : List Int → σ → σ × Bool} {B : Nat} {w0 : World} {g c : Nat} {af : Option Addr} {cf : Nat} {free : List Bool} (sf : SlV φ af cf free) (hfr : Hid (free.length = n)) {p1 p2 p3 p4 p5 : Nat}
    (hi : ∀ s w, J s w → Inv B w0 φ φ w) (hset : ∀ s w k v, J s w → J s (w.setCell ⟨g, k, none⟩ v))
    (hV : ∀ x s w, Hid (x.length = n) → J s w → Own B φ w 3 (some ⟨g, 0, none⟩) c x → Calls Tryd.prog 70 #[.slice (some ⟨g, 0, none⟩) n c, .pointer (some ⟨p1, 0, none⟩), .pointer (some ⟨p2, 0, none⟩), .pointer (some ⟨p3, 0, none⟩), .pointer (some ⟨p4, 0, none⟩), .pointer (some ⟨p5, 0, none⟩)] w (fun e w' => e = .returned (.bool (V x s).2) ∧ J (V x s).1 w' ∧ Own B φ w' 3 (some ⟨g, 0, none⟩) c x)) :
    ∀ (r f : Nat), n - f = r → f ≤ n → ∀ (fi : Int), fi = (f : Int) → ∀ x s w, Hid (x.length = n) → J s w → Own B φ w 3 (some ⟨g, 0, none⟩) c x → ∀ {q : σ × Bool}, Hid (foldU V (comps fs free (n - f) f x) s = q) →
    Calls Tryd.prog 68 #[.pointer (some ⟨br, 0, none⟩), .slice (some ⟨g, 0, none⟩) n c, .slice af n cf, .int .i64 fi, .func (.func 70) #[] #[.pointer (some ⟨p1, 0, none⟩), .pointer (some ⟨p2, 0, none⟩), .pointer (some ⟨p3, 0, none⟩), .pointer (some ⟨p4, 0, none⟩), .pointer (some ⟨p5, 0, none⟩)]] w
      (fun e w' => ∃ x', e = .returned (.bool q.2) ∧ Hid (x'.length = n) ∧ J q.1 w' ∧ Own B φ w' 3 (some ⟨g, 0, none⟩) c x' ∧ (q.2 = false → x' = x)) := by
  intro r
  induction r using Nat.strongRecOn with
  | ind r ih =>
  intro f hr hle fi hfi x s w hx hJ hO q hq
  subst hfi
  have hI := Lib.hid (hi s w hJ)
  have hn12 := R.ok.pos
  have r0 : w.cell? ⟨br, 0, none⟩ = some (.slice a n cap) := (R.blk hI.out.fz).cell 0
  have hJH := Lib.hid hJ
  have hOH := Lib.hid hO
  have IH := Lib.hid ih
  clear hJ hO ih
  go_enter Tryd.func68, Tryd.ntmps68
  go_wp2
  go_loop [3] (fun i => ∃ k : Nat, f ≤ k ∧ k ≤ n ∧ i = .int .i64 k ∧ Hid (∀ i, f ≤ i → i < k → free.getD i false = false)) (fun i => n - (intOf i).toNat)
  case atStart => exact ⟨f, Nat.le_refl _, hle, rfl, Lib.hid (fun i h1 h2 => by omega)⟩
  case round =>
    obtain ⟨k, hfk, hk, rfl, hok⟩ := hrel
    by_cases hlt : k < n
    · obtain ⟨b1, o1, ha, f1⟩ := sf.boolsD hfr hlt
      have d1 := (f1 k hlt w hI.out.fz).2
      subst ha
      clear f1
      obtain ⟨fb, hfb⟩ : ∃ fb, Hid (free.getD k false = fb) := ⟨_, Lib.hid rfl⟩
      rw [hfb.out] at d1
      cases fb
      case false =>
        clear r0
        go_wp2
        go_round
        case rel => exact ⟨k + 1, by omega, by omega, by go_num, Lib.hid (fun i h1 h2 => by
          by_cases e : i = k
          · subst e; exact hfb.out
          · exact hok.out i h1 (by omega))⟩
        case measure => (simp [intOf] <;> omega)
      case true =>
        have hq2 : Hid (foldU V ((fs.getD k fld0).2.1.flatMap (fun y => comps fs free (n - (k + 1)) (k + 1) (x.set k y))) s = q) := Lib.hid (by
          have h := hq.out
          rw [comps_to hfk (by omega) hok.out, show n - k = (n - (k + 1)) + 1 by omega, comps, if_pos hfb.out] at h
          exact h)
        have hfl := Lib.hid R.ok.len
        obtain ⟨b2, o2, ha2, f2⟩ := R.fv.fldD hfl hlt
        obtain ⟨a3, c3, s3, f2⟩ := f2 k hlt
        have d2 := (f2 w hI.out.fz).2.2.1
        have hcl := (fieldF_zero (fldBad_zero (R.ok.fld k hlt)).2.2).2.1
        subst ha2
        clear f2
        generalize (fs.getD k fld0).2.1 = cd at *
        obtain ⟨nc, hnc⟩ : ∃ nc, Hid (cd.length = nc) := ⟨_, Lib.hid rfl⟩
        rw [hnc.out] at d2 hcl
        have e3 := s3.capn
        have e4 := s3.capm
        rw [hnc.out] at e3
        unfold maxLen at e4
        obtain ⟨g', hg', hglt, fO⟩ := hOH.out.intsD hx hlt
        cases hg'
        have d3 := (fO k hlt).1
        clear fO
        generalize hold : x.getD k 0 = old at *
        replace hold := Lib.hid hold
        have hne : ((k : Int) == n) = false := by simp; omega
        go_wp2
        clear d1 d2 d3 r0 hne
        go_loopw [48] (fun i wr => ∃ (j : Nat) (x1 : List Int) (s1 : σ), j ≤ nc ∧ i = .int .i64 j ∧ Hid (x1.length = n) ∧ Hid (J s1 wr) ∧ Hid (Own B φ wr 3 (some ⟨g, 0, none⟩) c x1) ∧ Hid (∀ y, x1.set k y = x.set k y) ∧ Hid (foldU V ((cd.drop j).flatMap (fun y => comps fs free (n - (k + 1)) (k + 1) (x.set k y))) s1 = q)) (fun i _ => nc - (intOf i).toNat)
        case atStart => exact ⟨0, x, s, Nat.zero_le _, rfl, hx, hJH, hOH, Lib.hid (fun _ => rfl), Lib.hid (by rw [List.drop_zero]; exact hq2.out)⟩
        case round =>
          clear hJH hOH hI hq2
          obtain ⟨j, x1, s1, hj, rfl, hx1, hJ1, hO1, hx2, hq3⟩ := hrel
          have hI1 := Lib.hid (hi s1 wr hJ1.out)
          obtain ⟨g', hg', hglt1, fO⟩ := hO1.out.intsD hx1 hlt
          cases hg'
          obtain ⟨d3, d4, hst⟩ := fO k hlt
          have HST := Lib.hid hst
          clear fO hst
          by_cases hjl : j < nc
          · obtain ⟨b4, o4, ha4, f4⟩ := s3.intsD hnc hjl
            have d5 := (f4 j hjl wr hI1.out.fz).2
            subst ha4
            clear f4
            have hq4 : Hid (foldU V (comps fs free (n - (k + 1)) (k + 1) (x.set k (cd.getD j 0)) ++ (cd.drop (j + 1)).flatMap (fun y => comps fs free (n - (k + 1)) (k + 1) (x.set k y))) s1 = q) := Lib.hid (by
              have h := hq3.out
              rw [drop_getD (d := 0) (by rw [hnc.out]; exact hjl), List.flatMap_cons] at h
              exact h)
            generalize cd.getD j 0 = y at *
            obtain ⟨q2, hq5⟩ : ∃ q2, Hid (foldU V (comps fs free (n - (k + 1)) (k + 1) (x.set k y)) s1 = q2) := ⟨_, Lib.hid rfl⟩
            obtain ⟨s2, bb⟩ := q2
            have hq6 : Hid ((if bb = true then (s2, true) else foldU V ((cd.drop (j + 1)).flatMap (fun y => comps fs free (n - (k + 1)) (k + 1) (x.set k y))) s2) = q) := Lib.hid (by
              have h := hq4.out
              rw [foldU_append, hq5.out] at h
              exact h)
            have hO2 := Lib.hid (HST.out y w0 φ hI1.out).1
            rw [hx2.out y] at hO2
            have hJ2 := Lib.hid (hset s1 wr k (.int .i64 y) hJ1.out)
            have hlen : Hid ((x.set k y).length = n) := Lib.hid (by rw [List.length_set]; exact hx.out)
            have hgo := IH.out (n - (k + 1)) (by omega) (k + 1) rfl (by omega) ((k : Int) + 1) (by omega) (x.set k y) s1 _ hlen hJ2.out hO2.out hq5
            have HGO := Lib.hid hgo
            clear hgo hq4 hq5
            cases bb
            · go_wp2_with (go_at_call 68; refine HGO.out.mono ?_; rintro e w' ⟨x', rfl, hx', hJ', hO', hxx⟩)
              go_roundw
              case rel =>
                obtain rfl := hxx (by first | trivial | rfl)
                exact ⟨j + 1, _, s2, by omega, by go_num, hlen, Lib.hid hJ', Lib.hid hO', Lib.hid (fun z => by rw [List.set_set]), Lib.hid (by have h := hq6.out; rw [if_neg (by simp)] at h; exact h)⟩
              case measure => (simp [intOf] <;> omega)
            · go_wp2_with (go_at_call 68; refine HGO.out.mono ?_; rintro e w' ⟨x', rfl, hx', hJ', hO', hxx⟩)
              go_ret
              have h := hq6.out
              simp only [if_true] at h
              subst h
              exact ⟨x', rfl, hx', hJ', hO', fun h => by cases h⟩
          · obtain rfl : j = nc := by omega
            have hqe : q = (s1, false) := by
              have h := hq3.out
              rw [List.drop_eq_nil_of_le (by rw [hnc.out]; exact Nat.le_refl _)] at h
              exact h.symm
            have HQ := Lib.hid hqe
            clear hqe
            have hO2 := Lib.hid (HST.out old w0 φ hI1.out).1
            rw [hx2.out old, ← hold.out, set_getD (by rw [hx.out]; exact hlt), hold.out] at hO2
            have hJ2 := Lib.hid (hset s1 wr k (.int .i64 old) hJ1.out)
            go_wp2
            go_ret
            obtain rfl := HQ.out
            exact ⟨x, rfl, hx, hJ2.out, hO2.out, fun _ => rfl⟩
    · obtain rfl : k = n := by omega
      have hq2 : Hid (V x s = q) := Lib.hid (by
        have h := hq.out
        rw [comps_to hfk (Nat.le_refl _) hok.out, Nat.sub_self, comps, foldU_one] at h
        exact h)
      have hgo := Lib.hid (hV x s w hx hJH.out hOH.out)
      rw [hq2.out] at hgo
      have heq : ((k : Int) == k) = true := by simp
      clear r0
      go_wp2_with (go_at_call 70; refine hgo.out.mono ?_; rintro e w' ⟨rfl, hJ', hO'⟩)
      go_ret
      exact ⟨x, rfl, hx, hJ', hO', fun _ => rfl⟩
end Go.Proofs.YtkfmadeeobalaaaDoor

namespace Go.Proofs.YtkfmadeeobalaaaDoor
open Go.RowKit
set_option linter.unusedVariables false

theorem getD_set (x : List Int) (k i : Nat) (c : Int) : (x.set k c).getD i 0 = if i = k ∧ k < x.length then c else x.getD i 0 := by
  rw [List.getD_eq_getElem?_getD, List.getElem?_set, List.getD_eq_getElem?_getD]
  by_cases h : k = i
  · subst h
    by_cases h2 : k < x.length
    · simp [h2]
    · simp [h2]
  · rw [if_neg h, if_neg (fun e => h e.1.symm)]
theorem getD_set_ne {x : List Int} {k i : Nat} {c : Int} (h : i ≠ k) : (x.set k c).getD i 0 = x.getD i 0 := by rw [getD_set, if_neg (fun e => h e.1)]
theorem getD_set_eq {x : List Int} {k : Nat} {c : Int} (h : k < x.length) : (x.set k c).getD k 0 = c := by rw [getD_set, if_pos ⟨rfl, h⟩]
theorem ext_getD {x y : List Int} (hl : y.length = x.length) (h : ∀ i, i < x.length → y.getD i 0 = x.getD i 0) : y = x := by
  apply List.ext_getElem hl
  intro i h1 h2
  have := h i h2
  rwa [getD_elem0 _ _ _ h1, getD_elem0 _ _ _ h2] at this
/-- Which records are completions. -/
theorem mem_comps {fs : List Fld} {free : List Bool} : ∀ {r f : Nat} {x y : List Int}, f + r ≤ x.length →
    (y ∈ comps fs free r f x ↔ y.length = x.length ∧ ∀ i, i < x.length → if f ≤ i ∧ i < f + r ∧ free.getD i false = true then y.getD i 0 ∈ (fs.getD i fld0).2.1 else y.getD i 0 = x.getD i 0)
  | 0, f, x, y, h => by
    rw [comps, List.mem_singleton]
    constructor
    · rintro rfl
      exact ⟨rfl, fun i hi => by rw [if_neg (by omega)]⟩
    · rintro ⟨hl, hh⟩
      exact ext_getD hl (fun i hi => by have := hh i hi; rwa [if_neg (by omega)] at this)
  | r + 1, f, x, y, h => by
    rw [comps]
    split
    · next hf =>
      rw [List.mem_flatMap]
      constructor
      · rintro ⟨c, hc, hy⟩
        obtain ⟨hl, hh⟩ := (mem_comps (by rw [List.length_set]; omega)).1 hy
        rw [List.length_set] at hl hh
        refine ⟨hl, fun i hi => ?_⟩
        have := hh i hi
        by_cases e : i = f
        · subst e
          rw [if_neg (by omega), getD_set_eq hi] at this
          rw [if_pos ⟨Nat.le_refl _, by omega, hf⟩, this]
          exact hc
        · rw [getD_set_ne e] at this
          by_cases c1 : f + 1 ≤ i ∧ i < f + 1 + r ∧ free.getD i false = true
          · rw [if_pos c1] at this
            rw [if_pos ⟨by omega, by omega, c1.2.2⟩]; exact this
          · rw [if_neg c1] at this
            rw [if_neg (fun q => c1 ⟨by omega, by omega, q.2.2⟩)]; exact this
      · rintro ⟨hl, hh⟩
        have h0 := hh f (by omega)
        rw [if_pos ⟨Nat.le_refl _, by omega, hf⟩] at h0
        refine ⟨_, h0, (mem_comps (by rw [List.length_set]; omega)).2 ⟨by rw [List.length_set]; exact hl, fun i hi => ?_⟩⟩
        rw [List.length_set] at hi
        have := hh i hi
        by_cases e : i = f
        · subst e
          rw [if_neg (by omega), getD_set_eq hi]
        · rw [getD_set_ne e]
          by_cases c1 : f ≤ i ∧ i < f + (r + 1) ∧ free.getD i false = true
          · rw [if_pos c1] at this
            rw [if_pos ⟨by omega, by omega, c1.2.2⟩]; exact this
          · rw [if_neg c1] at this
            rw [if_neg (fun q => c1 ⟨by omega, by omega, q.2.2⟩)]; exact this
    · next hf =>
      rw [mem_comps (by omega)]
      constructor
      · rintro ⟨hl, hh⟩
        refine ⟨hl, fun i hi => ?_⟩
        have := hh i hi
        by_cases c1 : f + 1 ≤ i ∧ i < f + 1 + r ∧ free.getD i false = true
        · rw [if_pos c1] at this
          rw [if_pos ⟨by omega, by omega, c1.2.2⟩]; exact this
        · rw [if_neg c1] at this
          rw [if_neg (fun q => c1 ⟨by have : i ≠ f := (fun e => hf (e ▸ q.2.2)); omega, by omega, q.2.2⟩)]; exact this
      · rintro ⟨hl, hh⟩
        refine ⟨hl, fun i hi => ?_⟩
        have := hh i hi
        by_cases c1 : f ≤ i ∧ i < f + (r + 1) ∧ free.getD i false = true
        · rw [if_pos c1] at this
          rw [if_pos ⟨by have : i ≠ f := (fun e => hf (e ▸ c1.2.2)); omega, by omega, c1.2.2⟩]; exact this
        · rw [if_neg c1] at this
          rw [if_neg (fun q => c1 ⟨by omega, by omega, q.2.2⟩)]; exact this
/-- The free fields of a list of numbers. -/
def frB (n : Nat) (free : List Int) : List Bool := (List.range n).map (fun i : Nat => decide ((i : Int) ∈ free))
theorem frB_len (n : Nat) (free : List Int) : (frB n free).length = n := by unfold frB; simp
theorem frB_get {n : Nat} {free : List Int} {i : Nat} (h : i < n) : (frB n free).getD i false = decide ((i : Int) ∈ free) := by
  rw [getD_elem0 _ _ _ (by rw [frB_len]; exact h)]; unfold frB; simp
/-- The first record that passes. -/
def firstV (fs : List Fld) (es : List Edt) (n m : Nat) (x : List Int) (s : List Int) : List Int × Bool := if passB fs es x n m = true then (x, true) else (s, false)
def firstS (fs : List Fld) (es : List Edt) (n m : Nat) (rec free : List Int) : List Int × Bool := foldU (firstV fs es n m) (comps fs (frB n free) n 0 rec) []
theorem foldU_first {fs : List Fld} {es : List Edt} {n m : Nat} : ∀ (l : List (List Int)) (s : List Int), foldU (firstV fs es n m) l s = match l.find? (fun x => passB fs es x n m) with | some x => (x, true) | none => (s, false)
  | [], s => rfl
  | x :: l, s => by
    rw [foldU, List.find?_cons]
    by_cases h : passB fs es x n m = true
    · have e : firstV fs es n m x s = (x, true) := by rw [firstV, if_pos h]
      rw [e, h]; rfl
    · have e : firstV fs es n m x s = (s, false) := by rw [firstV, if_neg h]
      have h' : passB fs es x n m = false := by simpa using h
      rw [e, h', if_neg (by simp)]
      exact foldU_first l s
theorem firstS_some {fs : List Fld} {es : List Edt} {n m : Nat} {rec free : List Int} (h : (firstS fs es n m rec free).2 = true) : (firstS fs es n m rec free).1 ∈ comps fs (frB n free) n 0 rec ∧ passB fs es (firstS fs es n m rec free).1 n m = true := by
  unfold firstS at h ⊢
  rw [foldU_first] at h ⊢
  cases hf : (comps fs (frB n free) n 0 rec).find? (fun x => passB fs es x n m) with
  | none => rw [hf] at h; cases h
  | some x => exact ⟨List.mem_of_find?_eq_some hf, by have := List.find?_some hf; simpa using this⟩
theorem firstS_of {fs : List Fld} {es : List Edt} {n m : Nat} {rec free x : List Int} (hx : x ∈ comps fs (frB n free) n 0 rec) (hp : passB fs es x n m = true) : (firstS fs es n m rec free).2 = true := by
  unfold firstS
  rw [foldU_first]
  cases hf : (comps fs (frB n free) n 0 rec).find? (fun x => passB fs es x n m) with
  | none =>
    rw [List.find?_eq_none] at hf
    exact absurd hp (by simpa using hf x hx)
  | some y => rfl
/-- Fields in which two records differ. -/
def apL (a b : List Int) (k : Nat) : List Int := ((List.range k).filter (fun i : Nat => decide (a.getD i 0 ≠ b.getD i 0))).map (fun i : Nat => (i : Int))
theorem apL_t {a b : List Int} {k : Nat} (h : a.getD k 0 ≠ b.getD k 0) : apL a b (k + 1) = apL a b k ++ [(k : Int)] := by
  have e : List.filter (fun i : Nat => decide (a.getD i 0 ≠ b.getD i 0)) [k] = [k] := by rw [List.filter_cons_of_pos (by simpa using h)]; rfl
  unfold apL; rw [List.range_succ, List.filter_append, List.map_append, e]; rfl
theorem apL_f {a b : List Int} {k : Nat} (h : a.getD k 0 = b.getD k 0) : apL a b (k + 1) = apL a b k := by
  have e : List.filter (fun i : Nat => decide (a.getD i 0 ≠ b.getD i 0)) [k] = [] := by rw [List.filter_cons_of_neg (by simpa using h)]; rfl
  unfold apL; rw [List.range_succ, List.filter_append, List.map_append, e]; simp
theorem apL_len (a b : List Int) (k : Nat) : (apL a b k).length ≤ k := by
  unfold apL; rw [List.length_map]; exact Nat.le_trans (List.length_filter_le _ _) (by simp)
theorem mem_apL {a b : List Int} {k : Nat} {i : Int} : i ∈ apL a b k ↔ ∃ j : Nat, i = j ∧ j < k ∧ a.getD j 0 ≠ b.getD j 0 := by
  unfold apL
  rw [List.mem_map]
  constructor
  · rintro ⟨j, hj, rfl⟩
    rw [List.mem_filter, List.mem_range] at hj
    exact ⟨j, rfl, hj.1, by simpa using hj.2⟩
  · rintro ⟨j, rfl, h1, h2⟩
    exact ⟨j, by rw [List.mem_filter, List.mem_range]; exact ⟨h1, by simpa using h2⟩, rfl⟩
theorem apL_sorted (a b : List Int) (k : Nat) : (apL a b k).Pairwise (· < ·) := by
  unfold apL
  rw [List.pairwise_map]
  refine List.Pairwise.filter _ ?_
  refine List.Pairwise.imp ?_ (List.pairwise_lt_range (n := k))
  intro x y h
  exact Int.ofNat_lt.2 h
/-- The weight of fields. -/
def wOf (fs : List Fld) (k : Int) : Int := (fs.getD k.toNat fld0).2.2
def wSum (fs : List Fld) (l : List Int) : Int := (l.map (wOf fs)).sum
theorem wSum_snoc (fs : List Fld) (l : List Int) (k : Int) : wSum fs (l ++ [k]) = wSum fs l + wOf fs k := by
  unfold wSum; rw [List.map_append, List.sum_append]; simp
theorem wSum_bd {fs : List Fld} : ∀ {l : List Int}, (∀ k ∈ l, 0 ≤ wOf fs k ∧ wOf fs k ≤ 1000) → 0 ≤ wSum fs l ∧ wSum fs l ≤ 1000 * (l.length : Int)
  | [], _ => by simp [wSum]
  | k :: l, h => by
    have h1 := h k (by simp)
    have h2 := wSum_bd (l := l) (fun x hx => h x (by simp [hx]))
    have e : wSum fs (k :: l) = wOf fs k + wSum fs l := by unfold wSum; simp
    rw [e, List.length_cons]
    omega
theorem sum_erase (f : Int → Int) {x : Int} : ∀ {b : List Int}, x ∈ b → (b.map f).sum = f x + ((b.erase x).map f).sum
  | y :: b, h => by
    by_cases e : y = x
    · subst e; simp
    · have hb : x ∈ b := by rcases List.mem_cons.1 h with h | h; exact absurd h.symm e; exact h
      rw [List.erase_cons_tail (by simpa using e), List.map_cons, List.sum_cons, sum_erase f hb, List.map_cons, List.sum_cons]
      omega
theorem sum_le (f : Int → Int) : ∀ {a b : List Int}, a.Nodup → (∀ x ∈ a, x ∈ b) → (∀ x ∈ b, 0 ≤ f x) → (a.map f).sum ≤ (b.map f).sum
  | [], b, _, _, hb => by
    induction b with
    | nil => simp
    | cons y b ih =>
      have h1 := hb y (by simp)
      have h2 := ih (by simp) (fun x hx => hb x (by simp [hx]))
      simp only [List.map_nil, List.sum_nil, List.map_cons, List.sum_cons] at h2 ⊢
      omega
  | x :: a, b, hn, hs, hb => by
    rw [List.nodup_cons] at hn
    have hx := hs x (by simp)
    rw [sum_erase f hx, List.map_cons, List.sum_cons]
    have := sum_le f (a := a) (b := b.erase x) hn.2 (fun y hy => (List.mem_erase_of_ne (fun e => hn.1 (by rw [← e]; exact hy))).2 (hs y (by simp [hy]))) (fun y hy => hb y (List.mem_of_mem_erase hy))
    omega
theorem nodup_of_lt {l : List Int} (h : l.Pairwise (· < ·)) : l.Nodup := List.Pairwise.imp (fun h e => by omega) h
/-- The order of slices.Compare. -/
def cmpI : List Int → List Int → Int
  | [], [] => 0
  | [], _ :: _ => -1
  | _ :: _, [] => 1
  | x :: xs, y :: ys => if x < y then -1 else if y < x then 1 else cmpI xs ys
theorem cmpI_self : ∀ a, cmpI a a = 0
  | [] => rfl
  | x :: a => by rw [cmpI, if_neg (by omega), if_neg (by omega)]; exact cmpI_self a
theorem cmpI_eq : ∀ {a b}, cmpI a b = 0 → a = b
  | [], [], _ => rfl
  | [], _ :: _, h => by rw [cmpI] at h; cases h
  | _ :: _, [], h => by rw [cmpI] at h; cases h
  | x :: a, y :: b, h => by
    rw [cmpI] at h
    split at h
    · cases h
    · split at h
      · cases h
      · rw [cmpI_eq h, show x = y by omega]
theorem cmpI_swap : ∀ a b, cmpI b a = - cmpI a b
  | [], [] => rfl
  | [], _ :: _ => rfl
  | _ :: _, [] => rfl
  | x :: a, y :: b => by
    rw [cmpI, cmpI]
    by_cases h : x < y
    · rw [if_neg (by omega), if_pos h, if_pos h]; rfl
    · by_cases h2 : y < x
      · rw [if_pos h2, if_neg h, if_pos h2]
      · rw [if_neg h2, if_neg h, if_neg h, if_neg h2]; exact cmpI_swap a b
theorem cmpI_trans : ∀ {a b c}, cmpI a b < 0 → cmpI b c < 0 → cmpI a c < 0
  | [], [], _, h, _ => by rw [cmpI] at h; cases h
  | _ :: _, [], _, h, _ => by rw [cmpI] at h; cases h
  | _, _ :: _, [], _, h => by rw [cmpI] at h; cases h
  | [], _ :: _, _ :: _, _, _ => by rw [cmpI]; decide
  | x :: a, y :: b, z :: c, h, k => by
    rw [cmpI] at h k ⊢
    split at h
    · split at k
      · rw [if_pos (by omega)]; decide
      · split at k
        · cases k
        · rw [if_pos (by omega)]; decide
    · split at h
      · cases h
      · split at k
        · rw [if_pos (by omega)]; decide
        · split at k
          · cases k
          · rw [if_neg (by omega), if_neg (by omega)]; exact cmpI_trans h k
/-- A set of fields comes ahead of another one. -/
def ahead (fs : List Fld) (a b : List Int) : Bool :=
  decide (wSum fs a < wSum fs b) || (decide (wSum fs a = wSum fs b) && (decide (a.length < b.length) || (decide (a.length = b.length) && decide (cmpI a b < 0))))
theorem ahead_iff {fs : List Fld} {a b : List Int} : ahead fs a b = true ↔ wSum fs a < wSum fs b ∨ (wSum fs a = wSum fs b ∧ (a.length < b.length ∨ (a.length = b.length ∧ cmpI a b < 0))) := by
  unfold ahead; simp
theorem ahead_irrefl {fs : List Fld} {a : List Int} : ahead fs a a = false := by
  rw [Bool.eq_false_iff, Ne, ahead_iff, cmpI_self]; omega
theorem ahead_trans {fs : List Fld} {a b c : List Int} (h : ahead fs a b = true) (k : ahead fs b c = true) : ahead fs a c = true := by
  rw [ahead_iff] at h k ⊢
  rcases h with h | ⟨h1, h2 | ⟨h2, h3⟩⟩
  · rcases k with k | ⟨k1, _⟩ <;> exact .inl (by omega)
  · rcases k with k | ⟨k1, k2 | ⟨k2, k3⟩⟩
    · exact .inl (by omega)
    · exact .inr ⟨by omega, .inl (by omega)⟩
    · exact .inr ⟨by omega, .inl (by omega)⟩
  · rcases k with k | ⟨k1, k2 | ⟨k2, k3⟩⟩
    · exact .inl (by omega)
    · exact .inr ⟨by omega, .inl (by omega)⟩
    · exact .inr ⟨by omega, .inr ⟨by omega, cmpI_trans h3 k3⟩⟩
theorem ahead_total {fs : List Fld} {a b : List Int} (h : ahead fs a b = false) (k : ahead fs b a = false) : a = b := by
  rw [Bool.eq_false_iff, Ne, ahead_iff] at h k
  have h1 : wSum fs a = wSum fs b := by omega
  have h2 : a.length = b.length := by omega
  have h3 := cmpI_swap a b
  refine cmpI_eq ?_
  omega
abbrev LSt := List Int × Int × Bool
def leastV (fs : List Fld) (es : List Edt) (n m : Nat) (rec x : List Int) (s : LSt) : LSt × Bool :=
  (if ((!s.2.2) || (decide (wSum fs (apL rec x n) < s.2.1) || (decide (wSum fs (apL rec x n) = s.2.1) && (decide ((apL rec x n).length < s.1.length) || (decide ((apL rec x n).length = s.1.length) && decide (cmpI (apL rec x n) s.1 < 0)))))) = true ∧ (failL es x n m).length = 0 then (apL rec x n, wSum fs (apL rec x n), true) else s, false)
def leastS (fs : List Fld) (es : List Edt) (n m : Nat) (rec : List Int) : LSt × Bool := foldU (leastV fs es n m rec) (comps fs (List.replicate n true) n 0 (List.replicate n 0)) ([], 0, false)
structure LeastI (fs : List Fld) (es : List Edt) (n m : Nat) (rec : List Int) (l : List (List Int)) (s : LSt) : Prop where
  no : s.2.2 = false → ∀ x ∈ l, (failL es x n m).length ≠ 0
  yes : s.2.2 = true → s.2.1 = wSum fs s.1 ∧ (∃ x ∈ l, (failL es x n m).length = 0 ∧ s.1 = apL rec x n) ∧ ∀ x ∈ l, (failL es x n m).length = 0 → ahead fs (apL rec x n) s.1 = false
theorem LeastI.next {fs : List Fld} {es : List Edt} {n m : Nat} {rec : List Int} {l : List (List Int)} {s : LSt} (h : LeastI fs es n m rec l s) (x : List Int) : LeastI fs es n m rec (l ++ [x]) (leastV fs es n m rec x s).1 := by
  obtain ⟨b, w, fo⟩ := s
  unfold leastV
  dsimp only
  cases fo with
  | false =>
    by_cases hf : (failL es x n m).length = 0
    · rw [if_pos ⟨by simp, hf⟩]
      refine ⟨(fun h => by cases h), fun _ => ⟨rfl, ⟨x, by simp, hf, rfl⟩, fun y hy hyf => ?_⟩⟩
      rcases List.mem_append.1 hy with hy | hy
      · exact absurd hyf (h.no rfl y hy)
      · obtain rfl := List.mem_singleton.1 hy
        exact ahead_irrefl
    · rw [if_neg (fun q => hf q.2)]
      refine ⟨fun _ y hy => ?_, fun h => by cases h⟩
      rcases List.mem_append.1 hy with hy | hy
      · exact h.no rfl y hy
      · obtain rfl := List.mem_singleton.1 hy
        exact hf
  | true =>
    obtain ⟨h1, ⟨x0, m0, f0, e0⟩, h3⟩ := h.yes rfl
    dsimp only at h1 e0 h3
    subst h1
    have key : ((!true) || (decide (wSum fs (apL rec x n) < wSum fs b) || (decide (wSum fs (apL rec x n) = wSum fs b) && (decide ((apL rec x n).length < b.length) || (decide ((apL rec x n).length = b.length) && decide (cmpI (apL rec x n) b < 0)))))) = ahead fs (apL rec x n) b := by
      rw [ahead]; rfl
    rw [key]
    by_cases hc : ahead fs (apL rec x n) b = true ∧ (failL es x n m).length = 0
    · rw [if_pos hc]
      refine ⟨(fun h => by cases h), fun _ => ⟨rfl, ⟨x, by simp, hc.2, rfl⟩, fun y hy hyf => ?_⟩⟩
      rcases List.mem_append.1 hy with hy | hy
      · have := h3 y hy hyf
        cases hq : ahead fs (apL rec y n) (apL rec x n) with
        | false => rfl
        | true => rw [ahead_trans hq hc.1] at this; cases this
      · obtain rfl := List.mem_singleton.1 hy
        exact ahead_irrefl
    · rw [if_neg hc]
      refine ⟨(fun h => by cases h), fun _ => ⟨rfl, ⟨x0, by simp [m0], f0, e0⟩, fun y hy hyf => ?_⟩⟩
      rcases List.mem_append.1 hy with hy | hy
      · exact h3 y hy hyf
      · obtain rfl := List.mem_singleton.1 hy
        cases hq : ahead fs (apL rec y n) b with
        | false => rfl
        | true => exact absurd ⟨hq, hyf⟩ hc
theorem foldU_least {fs : List Fld} {es : List Edt} {n m : Nat} {rec : List Int} : ∀ (l l0 : List (List Int)) (s : LSt), LeastI fs es n m rec l0 s → LeastI fs es n m rec (l0 ++ l) (foldU (leastV fs es n m rec) l s).1 ∧ (foldU (leastV fs es n m rec) l s).2 = false
  | [], l0, s, h => ⟨by rw [List.append_nil]; exact h, rfl⟩
  | x :: l, l0, s, h => by
    have h1 := foldU_least l (l0 ++ [x]) _ (h.next x)
    rw [List.append_assoc] at h1
    rw [foldU, if_neg (by unfold leastV; simp)]
    exact h1
theorem leastS_inv (fs : List Fld) (es : List Edt) (n m : Nat) (rec : List Int) : LeastI fs es n m rec (comps fs (List.replicate n true) n 0 (List.replicate n 0)) (leastS fs es n m rec).1 := by
  have := (foldU_least (fs := fs) (es := es) (n := n) (m := m) (rec := rec) (comps fs (List.replicate n true) n 0 (List.replicate n 0)) [] ([], 0, false) ⟨fun _ x hx => by simp at hx, fun h => by cases h⟩).1
  simpa [leastS] using this
/-- All records with valid values. -/
theorem mem_all {fs : List Fld} {n : Nat} {y : List Int} : y ∈ comps fs (List.replicate n true) n 0 (List.replicate n 0) ↔ y.length = n ∧ validB fs y n = true := by
  rw [mem_comps (by simp), List.length_replicate]
  constructor
  · rintro ⟨h1, h2⟩
    refine ⟨h1, validB_true (fun i hi => ?_)⟩
    have := h2 i hi
    rw [if_pos ⟨by omega, by omega, by simp [List.getD_eq_getElem?_getD, hi]⟩] at this
    exact this
  · rintro ⟨h1, h2⟩
    refine ⟨h1, fun i hi => ?_⟩
    rw [if_pos ⟨by omega, by omega, by simp [List.getD_eq_getElem?_getD, hi]⟩]
    unfold validB at h2
    rw [List.all_eq_true] at h2
    exact of_decide_eq_true (h2 i (List.mem_range.2 hi))
theorem mem_first {fs : List Fld} {n : Nat} {rec free y : List Int} (hr : rec.length = n) : y ∈ comps fs (frB n free) n 0 rec ↔ y.length = n ∧ ∀ i, i < n → if (i : Int) ∈ free then y.getD i 0 ∈ (fs.getD i fld0).2.1 else y.getD i 0 = rec.getD i 0 := by
  rw [mem_comps (by omega), hr]
  constructor
  · rintro ⟨h1, h2⟩
    refine ⟨h1, fun i hi => ?_⟩
    have := h2 i hi
    rw [frB_get hi] at this
    by_cases h : (i : Int) ∈ free
    · rw [if_pos h]; rw [if_pos ⟨by omega, by omega, by simpa using h⟩] at this; exact this
    · rw [if_neg h]; rw [if_neg (fun q => h (by simpa using q.2.2))] at this; exact this
  · rintro ⟨h1, h2⟩
    refine ⟨h1, fun i hi => ?_⟩
    have := h2 i hi
    rw [frB_get hi]
    by_cases h : (i : Int) ∈ free
    · rw [if_pos h] at this; rw [if_pos ⟨by omega, by omega, by simpa using h⟩]; exact this
    · rw [if_neg h] at this; rw [if_neg (fun q => h (by simpa using q.2.2))]; exact this
/-- The fault of a list of free fields. -/
def freeBad (n : Nat) (free : List Int) (k : Nat) : Int := if outB (free.getD k 0) 0 ((n : Int) - 1) = true then 1 else if 0 < k ∧ free.getD k 0 ≤ free.getD (k - 1) 0 then 7 else 0
def freeF (n : Nat) (free : List Int) : Int := scan (freeBad n free) free.length
theorem freeF_zero {n : Nat} {free : List Int} (h : freeF n free = 0) : (∀ k ∈ free, 0 ≤ k ∧ k < n) := by
  intro k hk
  obtain ⟨i, hi, rfl⟩ := List.getElem_of_mem hk
  have := scan_all _ h i hi
  unfold freeBad at this
  rw [getD_elem0 _ _ _ hi] at this
  split at this
  · cases this
  · next h1 =>
    have := outB_false.1 (by simpa using h1 : outB free[i] 0 ((n : Int) - 1) = false)
    omega
theorem freeF_ok {n : Nat} {free : List Int} (h1 : ∀ k ∈ free, 0 ≤ k ∧ k < n) (h2 : free.Pairwise (· < ·)) : freeF n free = 0 := by
  refine scan_zero _ _ (fun i hi => ?_)
  unfold freeBad
  have hm := h1 free[i] (List.getElem_mem _)
  rw [getD_elem0 _ _ _ hi, if_neg (by rw [outB_false.2 (by omega)]; simp), if_neg]
  rintro ⟨hp, hle⟩
  rw [getD_elem0 _ _ _ (by omega)] at hle
  have := List.pairwise_iff_getElem.1 h2 (i - 1) i (by omega) hi (by omega)
  omega
theorem cods {fs : List Fld} {es : List Edt} {n m : Nat} (h : PlOk fs es n m) {i : Nat} (hi : i < n) {c : Int} (hc : c ∈ (fs.getD i fld0).2.1) : 1 ≤ c ∧ c ≤ 999 := by
  have h1 := (fieldF_zero (fldBad_zero (h.fld i hi)).2.2).2.2.1
  obtain ⟨j, hj, rfl⟩ := List.getElem_of_mem hc
  have := h1 j hj
  unfold codeBad at this
  rw [getD_elem0 _ _ _ hj] at this
  split at this
  · cases this
  · next h1 => exact outB_false.1 (by simpa using h1)
theorem wts {fs : List Fld} {es : List Edt} {n m : Nat} (h : PlOk fs es n m) {k : Int} (h0 : 0 ≤ k) (hk : k < n) : 1 ≤ wOf fs k ∧ wOf fs k ≤ 1000 := by
  exact outB_false.1 (fieldF_zero (fldBad_zero (h.fld k.toNat (by omega))).2.2).2.2.2
theorem valid_at {fs : List Fld} {rec : List Int} {n : Nat} (h : validB fs rec n = true) {i : Nat} (hi : i < n) : rec.getD i 0 ∈ (fs.getD i fld0).2.1 := by
  unfold validB at h
  rw [List.all_eq_true] at h
  exact of_decide_eq_true (h i (List.mem_range.2 hi))
theorem recF_valid {fs : List Fld} {es : List Edt} {n m : Nat} (h : PlOk fs es n m) {x : List Int} (hl : x.length = n) (hv : validB fs x n = true) : recF n x = 0 := by
  rw [recF, if_neg (by omega), hl]
  refine scan_zero _ _ (fun i hi => ?_)
  have := cods h hi (valid_at hv hi)
  rw [recBad, if_neg (by rw [outB_false.2 (by omega)]; simp)]
theorem pass_parts {fs : List Fld} {es : List Edt} {x : List Int} {n m : Nat} : passB fs es x n m = true ↔ validB fs x n = true ∧ (failL es x n m).length = 0 := by
  unfold passB; rw [Bool.and_eq_true, decide_eq_true_iff]
/-- The fields of Least are enough, and none that weigh less are. -/
theorem least_law {fs : List Fld} {es : List Edt} {n m : Nat} (h : PlOk fs es n m) {rec : List Int} (hr : rec.length = n) {l : List Int} {lw : Int} (hs : (leastS fs es n m rec).1 = (l, lw, true)) :
    freeF n l = 0 ∧ (firstS fs es n m rec l).2 = true ∧ recF n (firstS fs es n m rec l).1 = 0 ∧ (firstS fs es n m rec l).1.length = n ∧ passB fs es (firstS fs es n m rec l).1 n m = true ∧
    ∀ o, freeF n o = 0 → (firstS fs es n m rec o).2 = true → wSum fs l ≤ wSum fs o := by
  have hI := leastS_inv fs es n m rec
  rw [hs] at hI
  obtain ⟨h1, ⟨x, hx, hf, he⟩, h3⟩ := hI.yes rfl
  dsimp only at h1 he h3
  obtain ⟨hxl, hxv⟩ := mem_all.1 hx
  have hmem : x ∈ comps fs (frB n l) n 0 rec := (mem_first hr).2 ⟨hxl, fun i hi => by
    by_cases hi2 : (i : Int) ∈ l
    · rw [if_pos hi2]; exact valid_at hxv hi
    · rw [if_neg hi2]
      rw [he, mem_apL] at hi2
      by_cases e : x.getD i 0 = rec.getD i 0
      · exact e
      · exact absurd ⟨i, rfl, hi, fun e2 => e e2.symm⟩ hi2⟩
  have hfl : freeF n l = 0 := by
    rw [he]
    refine freeF_ok (fun k hk => ?_) (apL_sorted _ _ _)
    obtain ⟨j, rfl, hj, _⟩ := mem_apL.1 hk
    omega
  have hfs := firstS_of hmem (pass_parts.2 ⟨hxv, hf⟩)
  obtain ⟨g1, g2⟩ := firstS_some hfs
  have g3 := ((mem_first hr).1 g1).1
  refine ⟨hfl, hfs, recF_valid h g3 (pass_parts.1 g2).1, g3, g2, fun o ho hos => ?_⟩
  obtain ⟨k1, k2⟩ := firstS_some hos
  obtain ⟨k3, k4⟩ := (mem_first hr).1 k1
  obtain ⟨k5, k6⟩ := pass_parts.1 k2
  have k7 := h3 _ (mem_all.2 ⟨k3, k5⟩) k6
  have k8 : wSum fs (apL rec (firstS fs es n m rec o).1 n) ≤ wSum fs o := by
    refine sum_le _ (nodup_of_lt (apL_sorted _ _ _)) (fun k hk => ?_) (fun k hk => ?_)
    · obtain ⟨j, rfl, hj, hne⟩ := mem_apL.1 hk
      have := k4 j hj
      by_cases hjo : (j : Int) ∈ o
      · exact hjo
      · rw [if_neg hjo] at this; exact absurd this.symm hne
    · have := freeF_zero ho k hk
      have := wts h this.1 this.2
      omega
  rw [Bool.eq_false_iff, Ne, ahead_iff] at k7
  omega
end Go.Proofs.YtkfmadeeobalaaaDoor

namespace Go.Proofs.YtkfmadeeobalaaaDoor
open Go.RowKit
set_option linter.unusedVariables false

def cmpF (a b : Int) : Int := if a < b then -1 else if b < a then 1 else 0
theorem isNaN_any (x : Int) (w : World) : Calls Tryd.prog 141 #[.int .i64 x] w (fun e w' => e = .returned (.bool false) ∧ w = w') := by
  go_enter Tryd.func141, Tryd.ntmps141
  go_wp2
  go_ret
  exact ⟨ret_bool (by simp), rfl⟩
theorem cmp_any (a b : Int) (w : World) {q : Int} (hq : Hid (cmpF a b = q)) : Calls Tryd.prog 109 #[.int .i64 a, .int .i64 b] w (fun e w' => e = .returned (.int .i64 q) ∧ w = w') := by
  by_cases h1 : a < b
  · go_enter Tryd.func109, Tryd.ntmps109
    go_wp2_with (go_at_call 141; refine (isNaN_any _ _).mono ?_; rintro e w' ⟨rfl, rfl⟩)
    go_ret
    exact ⟨ret_int (by rw [← hq.out, cmpF, if_pos h1]), rfl⟩
  · by_cases h2 : b < a
    · go_enter Tryd.func109, Tryd.ntmps109
      go_wp2_with (go_at_call 141; refine (isNaN_any _ _).mono ?_; rintro e w' ⟨rfl, rfl⟩)
      go_ret
      exact ⟨ret_int (by rw [← hq.out, cmpF, if_neg (by omega), if_pos h2]), rfl⟩
    · go_enter Tryd.func109, Tryd.ntmps109
      go_wp2_with (go_at_call 141; refine (isNaN_any _ _).mono ?_; rintro e w' ⟨rfl, rfl⟩)
      go_ret
      exact ⟨ret_int (by rw [← hq.out, cmpF, if_neg (by omega), if_neg (by omega)]), rfl⟩
theorem cmpI_step {xs ys : List Int} {k n1 n2 : Nat} (h1 : xs.length = n1) (h2 : ys.length = n2) (k1 : k < n1) (k2 : k < n2) : cmpI (xs.drop k) (ys.drop k) = if cmpF (xs.getD k 0) (ys.getD k 0) ≠ 0 then cmpF (xs.getD k 0) (ys.getD k 0) else cmpI (xs.drop (k + 1)) (ys.drop (k + 1)) := by
  rw [drop_getD (d := 0) (by omega : k < xs.length), drop_getD (d := 0) (by omega : k < ys.length), cmpI, cmpF]
  by_cases a : xs.getD k 0 < ys.getD k 0
  · rw [if_pos a, if_pos a]; rfl
  · by_cases b : ys.getD k 0 < xs.getD k 0
    · rw [if_neg a, if_neg a, if_pos b, if_pos b]; rfl
    · rw [if_neg a, if_neg a, if_neg b, if_neg b]; rfl
theorem cmpI_end1 {xs ys : List Int} {k n1 n2 : Nat} (h1 : xs.length = n1) (h2 : ys.length = n2) (k1 : k < n1) (k2 : n2 ≤ k) : cmpI (xs.drop k) (ys.drop k) = 1 := by
  rw [drop_getD (d := 0) (by omega : k < xs.length), List.drop_eq_nil_of_le (by omega : ys.length ≤ k)]; rfl
theorem cmpI_end2 {xs ys : List Int} {k n2 : Nat} (h1 : xs.length = k) (h2 : ys.length = n2) : cmpI (xs.drop k) (ys.drop k) = if k < n2 then -1 else 0 := by
  rw [List.drop_eq_nil_of_le (by omega : xs.length ≤ k)]
  by_cases h : k < n2
  · rw [drop_getD (d := 0) (by omega : k < ys.length), if_pos h]; rfl
  · rw [List.drop_eq_nil_of_le (by omega : ys.length ≤ k), if_neg h]; rfl
set_option maxHeartbeats 1000000 in
theorem Compare_any (n1 : Nat) (a1 : Option Addr) (c1 : Nat) (xs : List Int) (n2 : Nat) (a2 : Option Addr) (c2 : Nat) (ys : List Int) (w : World) (φ ψ : Phi) (hφ : Fz φ w) (hψ : Fz ψ w) (s1 : SlV φ a1 c1 xs) (hn1 : Hid (xs.length = n1)) (hm1 : n1 ≤ 9223372036854775807) (s2 : SlV ψ a2 c2 ys) (hn2 : Hid (ys.length = n2)) (hm2 : n2 ≤ 9223372036854775807) {q : Int} (hq : Hid (cmpI xs ys = q)) :
    Calls Tryd.prog 71 #[.slice a1 n1 c1, .slice a2 n2 c2] w (fun e w' => e = .returned (.int .i64 q) ∧ w = w') := by
  go_enter Tryd.func71, Tryd.ntmps71
  go_wp2
  go_loop [11] (fun i => ∃ k : Nat, k ≤ n1 ∧ i = .int .i64 k ∧ Hid (cmpI (xs.drop k) (ys.drop k) = q)) (fun i => n1 - (intOf i).toNat)
  case atStart => exact ⟨0, Nat.zero_le _, rfl, by rw [List.drop_zero, List.drop_zero]; exact hq⟩
  case round =>
    clear hq
    obtain ⟨k, hk, rfl, hq⟩ := hrel
    by_cases hlt : k < n1
    · obtain ⟨b1, o1, rfl, f1⟩ := s1.intsD hn1 hlt
      have d1 := (f1 k hlt w hφ).2
      clear f1
      by_cases hlt2 : k < n2
      · obtain ⟨b2, o2, rfl, f2⟩ := s2.intsD hn2 hlt2
        have d2 := (f2 k hlt2 w hψ).2
        clear f2
        have hst := Lib.hid (hq.out.symm.trans (cmpI_step hn1.out hn2.out hlt hlt2))
        generalize xs.getD k 0 = x at *
        generalize ys.getD k 0 = y at *
        obtain ⟨c, hc⟩ : ∃ c, Hid (cmpF x y = c) := ⟨_, Lib.hid rfl⟩
        by_cases hc0 : c = 0
        · subst hc0
          go_wp2_with (go_at_call 109; refine (cmp_any _ _ _ hc).mono ?_; rintro e w' ⟨rfl, rfl⟩)
          go_round
          case rel => exact ⟨k + 1, by omega, by go_num, Lib.hid (by rw [hst.out, hc.out]; rfl)⟩
          case measure => (simp [intOf] <;> omega)
        · have hb : (c != 0) = true := by simp [hc0]
          have HC := Lib.hid hc0
          clear hc0
          go_wp2_with (go_at_call 109; refine (cmp_any _ _ _ hc).mono ?_; rintro e w' ⟨rfl, rfl⟩)
          go_ret
          exact ⟨ret_int (by rw [hst.out, hc.out, if_pos HC.out]), rfl⟩
      · have hst := Lib.hid (hq.out.symm.trans (cmpI_end1 hn1.out hn2.out hlt (by omega)))
        go_wp2
        go_ret
        exact ⟨ret_int hst.out.symm, rfl⟩
    · obtain rfl : k = n1 := by omega
      have hst := Lib.hid (hq.out.symm.trans (cmpI_end2 hn1.out hn2.out))
      by_cases h2 : k < n2
      · go_wp2
        go_ret
        exact ⟨ret_int (by rw [hst.out, if_pos h2]), rfl⟩
      · go_wp2
        go_ret
        exact ⟨ret_int (by rw [hst.out, if_neg h2]), rfl⟩
set_option maxHeartbeats 400000 in
theorem Clone_any {w : World} {ac : Option Addr} {cc nc : Nat} {cs : List Int} {φ : Phi} (hφ : Fz φ w) (sc : SlV φ ac cc cs) (hnc : Hid (cs.length = nc)) (hmc : nc ≤ 1000000) :
    Calls Tryd.prog 72 #[.slice ac nc cc] w (OwnPost cs φ w) := by
  cases ac with
  | none =>
    have h0 : cs = [] := List.eq_nil_of_length_eq_zero (by have := sc.capn; have := sc.nil rfl; omega)
    subst h0
    have hn0 : nc = 0 := hnc.out.symm
    subst hn0
    have hcc := sc.nil rfl
    subst hcc
    have he := fun w => Lib.run_eql_slice_nil (P := Tryd.prog) w 32 3 none 0 0 0 0 Tryd.underlying32
    go_enter Tryd.func72, Tryd.ntmps72
    go_wp2
    go_ret
    exact ⟨none, 0, rfl, Inv.start hφ, Own.nil _ _ _ _⟩
  | some ad =>
    have he := fun w => Lib.run_eql_slice_nil (P := Tryd.prog) w 32 3 (some ad) nc cc 0 0 Tryd.underlying32
    have hi0 := Inv.start hφ
    have hi2 := hi0.alloc (.cells #[] 3)
    have ho2 := Own.lit0 (α := Int) (E := 3) hi0
    go_enter Tryd.func72, Tryd.ntmps72
    go_wp2_with (at_builtin; refine wpList_apps (α := Int) rfl _ _ 32 rfl slI hi2 _ 0 [] ho2 (some ad) cc cs sc rfl (by rw [hnc.out]; rfl) (by rw [hnc.out]; simp; omega) ?_; intro a2 cap2 w2 hi3 hown3 hgr)
    go_ret
    exact ⟨a2, cap2, by simp, hi3, hown3⟩
def ApPost (fs : List Fld) (xs : List Int) (φ : Phi) (w : World) (e : Ending) (w' : World) : Prop :=
  ∃ a cap, e = .returned (.tuple #[.slice a xs.length cap, .int .i64 (wSum fs xs)]) ∧ Inv w.heap.size w φ φ w' ∧ Own w.heap.size φ w' 3 a cap xs
set_option maxHeartbeats 1000000 in
theorem apart_any
  {φ : Phi} {br : Nat} {fs : List Fld} {es : List Edt} {n m : Nat} {a : Option Addr} {cap : Nat} {ae : Option Addr} {ce : Nat} {ab : Option Addr} {cb : Nat} (R : RulV φ br fs es n m a cap ae ce ab cb)
    (w : World) (hφ : Fz φ w) (a1 : Option Addr) (c1 : Nat) (xs : List Int) (s1 : SlV φ a1 c1 xs) (hn1 : Hid (xs.length = n)) (a2 : Option Addr) (c2 : Nat) (ys : List Int) (s2 : SlV φ a2 c2 ys) (hn2 : Hid (ys.length = n)) :
    Calls Tryd.prog 36 #[.pointer (some ⟨br, 0, none⟩), .slice a1 n c1, .slice a2 n c2] w (ApPost fs (apL xs ys n) φ w) := by
  have hn12 := R.ok.pos
  have hfl := Lib.hid R.ok.len
  have hbk := Lib.hid (fun (wr : World) (h : Fz φ wr) => (R.blk h).cell 0)
  have hwt := Lib.hid (fun (k : Nat) (hk : k < n) => wts R.ok (k := (k : Int)) (by omega) (by omega))
  have hbd := Lib.hid (fun (k : Nat) (hk : k ≤ n) => wSum_bd (fs := fs) (l := apL xs ys k) (fun j hj => by
    obtain ⟨i, rfl, h1, _⟩ := mem_apL.1 hj
    have := wts R.ok (k := (i : Int)) (by omega) (by omega)
    omega))
  have hSt : Hid (Inv w.heap.size w φ φ w ∧ Own w.heap.size φ w 3 none 0 (apL xs ys 0)) := Lib.hid ⟨Inv.start hφ, Own.nil _ _ _ _⟩
  go_enter Tryd.func36, Tryd.ntmps36
  go_wp2
  go_loopw [6, 7, 11] (fun sl ww i wr => ∃ (k : Nat) (ao : Option Addr) (co : Nat), k ≤ n ∧ sl = .slice ao (apL xs ys k).length co ∧ ww = .int .i64 (wSum fs (apL xs ys k)) ∧ i = .int .i64 k ∧ Hid (Inv w.heap.size w φ φ wr ∧ Own w.heap.size φ wr 3 ao co (apL xs ys k))) (fun _ _ i _ => n - (intOf i).toNat)
  case atStart => exact ⟨0, none, 0, Nat.zero_le _, rfl, rfl, rfl, hSt⟩
  case round =>
    clear hSt
    obtain ⟨k, ao, co, hk, rfl, rfl, rfl, hS⟩ := hrel
    by_cases hlt : k < n
    · obtain ⟨b1, o1, rfl, f1⟩ := s1.intsD hn1 hlt
      have d1 := (f1 k hlt wr hS.out.1.fz).2
      obtain ⟨b2, o2, rfl, f2⟩ := s2.intsD hn2 hlt
      have d2 := (f2 k hlt wr hS.out.1.fz).2
      have hl := apL_len xs ys k
      have hb := hbd.out k hk
      have HT := Lib.hid (fun h : xs.getD k 0 ≠ ys.getD k 0 => apL_t h)
      have HF := Lib.hid (fun h : xs.getD k 0 = ys.getD k 0 => apL_f h)
      clear f1 f2
      generalize xs.getD k 0 = x at *
      generalize ys.getD k 0 = y at *
      by_cases he : x = y
      · have hne : (x != y) = false := by simp [he]
        have H2 := Lib.hid (HF.out he)
        clear he
        go_wp2
        go_quiet (fail)
        go_wp2
        go_roundw
        case rel => exact ⟨k + 1, ao, co, by omega, by rw [H2.out], by rw [H2.out], by go_num, by rw [H2.out]; exact Lib.hid ⟨hS.out.1.drewN _, hS.out.2.drewN _⟩⟩
        case measure => (simp [intOf] <;> omega)
      · have hne : (x != y) = true := by simp [he]
        have H2 := Lib.hid (HT.out he)
        clear he
        have hw1 := hwt.out k hlt
        have hsn := Lib.hid (wSum_snoc fs (apL xs ys k) (k : Int))
        obtain ⟨b3, o3, ha3, f3⟩ := R.fv.fldD hfl hlt
        obtain ⟨a4, c4, s4, f4⟩ := f3 k hlt
        have hwk : Hid (wOf fs (k : Int) = (fs.getD k fld0).2.2) := Lib.hid rfl
        rw [hwk.out] at hw1
        subst ha3
        clear f3
        have hF4 := Lib.hid f4
        clear f4
        generalize (fs.getD k fld0).2.2 = wt at *
        have hlk := Lib.hid hl
        generalize wSum fs (apL xs ys k) = sw at *
        have hin := Lib.hid (hS.out.1)
        have hon := Lib.hid (hS.out.2)
        go_wp2
        go_quiet (fail)
        go_wp2_with (at_builtin; refine wpList_app1 (α := Int) rfl _ _ 32 rfl slI (hin.out.drewN _) ao co _ (hon.out.drewN _) _ _ (k : Int) rfl rfl 1 rfl (by omega) ?_; intro a5 c5 w5 hi5 ho5 hg5; have p0 := hbk.out w5 hi5.fz; have p1 := (hF4.out w5 hi5.fz).2.2.2)
        go_roundw
        case rel => exact ⟨k + 1, a5, c5, by omega, by rw [H2.out]; simp, by rw [H2.out, hsn.out, hwk.out], by go_num, by rw [H2.out]; exact Lib.hid ⟨hi5, ho5⟩⟩
        case measure => (simp [intOf] <;> omega)
    · obtain rfl : k = n := by omega
      go_wp2
      go_ret2
      exact ⟨ao, co, rfl, hS.out.1, hS.out.2⟩
end Go.Proofs.YtkfmadeeobalaaaDoor

namespace Go.Proofs.YtkfmadeeobalaaaDoor
open Go.RowKit
set_option linter.unusedVariables false

theorem RepL.ints {φ ψ : Phi} : ∀ {xs : List Int} {cs : List Value}, RepL φ xs cs → RepL ψ xs cs
  | [], _, h => h
  | x :: xs, _, ⟨c, r, e, h1, h2⟩ => ⟨c, r, e, h1, RepL.ints h2⟩
theorem Own.ints {B : Nat} {φ ψ : Phi} {w : World} {E : TypeId} {a : Option Addr} {cap : Nat} {xs : List Int} (h : Own B φ w E a cap xs) (hf : ∀ x, a = some x → ψ x.block = none) : Own B ψ w E a cap xs := by
  obtain ⟨⟨cells, h1, h2⟩, _⟩ := h
  exact ⟨⟨cells, h1, h2.ints⟩, hf⟩
theorem grown_set (w : World) (g k : Nat) (v : Value) : w.grownBy (w.setCell ⟨g, k, none⟩ v) (some g) := ⟨rfl, rfl, rfl, by simp [World.setCell], fun k _ hk => Below.heap_setCell _ _ _ _ (by intro e; exact hk (by rw [e]))⟩
theorem Inv.toSelf {B : Nat} {w0 w : World} {φ0 φ : Phi} (h : Inv B w0 φ0 φ w) : Inv B w0 φ φ w := ⟨h.bel, h.base, h.fz, φ.le_refl, fun _ _ => rfl⟩
/-- A captured cell (block bo) holds a slice that reads as s; row g may be written. -/
structure HoldS (B : Nat) (w0 : World) (φ : Phi) (g bo : Nat) (T : TypeId) (s : List Int) (w : World) : Prop where
  inv : Inv B w0 φ φ w
  ex : ∃ φ3 a cap, φ.le φ3 ∧ Fz φ3 w ∧ (∀ b, b ≤ g → φ b = none → φ3 b = none) ∧ SlV φ3 a cap s ∧ Blk w bo #[.slice a s.length cap] T
  fg : φ g = none
  fo : φ bo = none
  lo : B ≤ bo
  lt : bo < g
  gw : g < w.heap.size
section
variable {B : Nat} {w0 w w' : World} {φ : Phi} {g bo : Nat} {T : TypeId} {s : List Int}
theorem HoldS.callB (h : HoldS B w0 φ g bo T s w) (hb : Below w.heap.size w w') : HoldS B w0 φ g bo T s w' := by
  obtain ⟨φ3, a, cap, h1, h2, h3, h4, h5⟩ := h.ex
  exact ⟨h.inv.callB hb, ⟨φ3, a, cap, h1, h2.below hb, h3, h4, h5.callB hb⟩, h.fg, h.fo, h.lo, h.lt, Nat.lt_of_lt_of_le h.gw hb.size⟩
/-- A store into another block up to g. -/
theorem HoldS.set (h : HoldS B w0 φ g bo T s w) {b k : Nat} (hb : b ≤ g) (hl : B ≤ b) (hφ : φ b = none) (hne : b ≠ bo) (v : Value) : HoldS B w0 φ g bo T s (w.setCell ⟨b, k, none⟩ v) := by
  obtain ⟨φ3, a, cap, h1, h2, h3, h4, h5⟩ := h.ex
  refine ⟨h.inv.setCell hl hφ v, ⟨φ3, a, cap, h1, fun x o hx => ?_, h3, h4, h5.other hne v⟩, h.fg, h.fo, h.lo, h.lt, by have := h.gw; simpa [World.setCell] using this⟩
  have hn := h3 b hb hφ
  exact ((grown_set w b k v).block x (h2.mlt hx) (fun e => by cases e; rw [hn] at hx; cases hx)).trans (h2 x o hx)
theorem HoldS.row (h : HoldS B w0 φ g bo T s w) (k : Nat) (v : Value) : HoldS B w0 φ g bo T s (w.setCell ⟨g, k, none⟩ v) :=
  h.set (Nat.le_refl _) (by have := h.lo; have := h.lt; omega) h.fg (by have := h.lt; omega) v
/-- Another slice is laid into the cell. -/
theorem HoldS.put (h : HoldS B w0 φ g bo T s w) (hb : Below w.heap.size w w') {ψ : Phi} {a : Option Addr} {c : Nat} {l : List Int} (ho : Own w.heap.size ψ w' 3 a c l) : HoldS B w0 φ g bo T l (w'.setCell ⟨bo, 0, none⟩ (.slice a l.length c)) := by
  have hgw := h.gw
  have hlt := h.lt
  have hk := (Inv.start h.inv.fz).callB hb
  have ho' := ho.ints (ψ := φ) (fun x hx => h.inv.fz.new_none (ho.lt x hx).1)
  obtain ⟨φ3, h1, h2, h3, h4⟩ := ho'.release hk
  have hn : ∀ b, b ≤ g → φ b = none → φ3 b = none := fun b hbg hφ => (h2.new b (by omega)).trans hφ
  obtain ⟨_, a0, cap0, _, _, _, _, h5⟩ := h.ex
  have h5' := h5.callB hb
  refine ⟨(h.inv.callB hb).setCell h.lo h.fo _, ⟨φ3, a, c, h1, fun x o hx => ?_, hn, h3, h5'.set 0 _⟩, h.fg, h.fo, h.lo, h.lt, ?_⟩
  · exact ((grown_set w' bo 0 _).block x (h2.fz.mlt hx) (fun e => by cases e; rw [hn bo (by omega) h.fo] at hx; cases hx)).trans (h2.fz x o hx)
  · have := hb.size
    have e : (w'.setCell ⟨bo, 0, none⟩ (.slice a l.length c)).heap.size = w'.heap.size := by simp [World.setCell]
    omega
/-- The cell, at the start: nil. -/
theorem HoldS.start (hi : Inv B w0 φ φ w) (h5 : Blk w bo #[.slice none 0 0] T) (fg : φ g = none) (fo : φ bo = none) (lo : B ≤ bo) (lt : bo < g) (gw : g < w.heap.size) : HoldS B w0 φ g bo T [] w :=
  ⟨hi, ⟨φ, none, 0, φ.le_refl, hi.fz, fun _ _ h => h, SlV.empty _, h5⟩, fg, fo, lo, lt, gw⟩
/-- What the cell holds in the end. -/
theorem HoldS.out (h : HoldS B w0 φ g bo T s w) : ∃ φ3 a cap, φ.le φ3 ∧ Inv B w0 φ φ3 w ∧ SlV φ3 a cap s ∧ Blk w bo #[.slice a s.length cap] T := by
  obtain ⟨φ3, a, cap, h1, h2, h3, h4, h5⟩ := h.ex
  refine ⟨φ3, a, cap, h1, ⟨h.inv.bel, h.inv.base, h2, h1, fun b hb => ?_⟩, h4, h5⟩
  have := h.lo; have := h.lt
  cases hφ : φ b with
  | none => exact h3 b (by omega) hφ
  | some o => exact h1 b o hφ
end
/-- The state of first's closure. -/
structure FiJ (B : Nat) (w0 : World) (φ : Phi) (br g b1 b2 : Nat) (s : List Int) (w : World) : Prop where
  h : HoldS B w0 φ g b2 32 s w
  k : Blk w b1 #[.pointer (some ⟨br, 0, none⟩)] 63
  lt : b1 < b2
theorem FiJ.row {B : Nat} {w0 w : World} {φ : Phi} {br g b1 b2 : Nat} {s : List Int} (h : FiJ B w0 φ br g b1 b2 s w) (k : Nat) (v : Value) : FiJ B w0 φ br g b1 b2 s (w.setCell ⟨g, k, none⟩ v) :=
  ⟨h.h.row k v, h.k.other (by have := h.lt; have := h.h.lt; show g ≠ b1; omega) v, h.lt⟩
theorem FiJ.callB {B : Nat} {w0 w w' : World} {φ : Phi} {br g b1 b2 : Nat} {s : List Int} (h : FiJ B w0 φ br g b1 b2 s w) (hb : Below w.heap.size w w') : FiJ B w0 φ br g b1 b2 s w' := ⟨h.h.callB hb, h.k.callB hb, h.lt⟩
theorem FiJ.put {B : Nat} {w0 w w' : World} {φ : Phi} {br g b1 b2 : Nat} {s : List Int} (h : FiJ B w0 φ br g b1 b2 s w) (hb : Below w.heap.size w w') {ψ : Phi} {a : Option Addr} {c : Nat} {l : List Int} (ho : Own w.heap.size ψ w' 3 a c l) : FiJ B w0 φ br g b1 b2 l (w'.setCell ⟨b2, 0, none⟩ (.slice a l.length c)) :=
  ⟨h.h.put hb ho, (h.k.callB hb).other (by have := h.lt; show b2 ≠ b1; omega) _, h.lt⟩
def VisPost {σ : Type} (J : σ → World → Prop) (B : Nat) (φ : Phi) (g c : Nat) (x : List Int) (q : σ × Bool) (e : Ending) (w' : World) : Prop :=
  e = .returned (.bool q.2) ∧ J q.1 w' ∧ Own B φ w' 3 (some ⟨g, 0, none⟩) c x
theorem firstC_any
  {φ : Phi} {br : Nat} {fs : List Fld} {es : List Edt} {n m : Nat} {a : Option Addr} {cap : Nat} {ae : Option Addr} {ce : Nat} {ab : Option Addr} {cb : Nat} (R : RulV φ br fs es n m a cap ae ce ab cb)
    {B : Nat} {w0 : World} {g b1 b2 c : Nat} (x s : List Int) (w : World) (hx : Hid (x.length = n)) (hJ : FiJ B w0 φ br g b1 b2 s w) (hO : Own B φ w 3 (some ⟨g, 0, none⟩) c x) :
    Calls Tryd.prog 112 #[.slice (some ⟨g, 0, none⟩) n c, .pointer (some ⟨b1, 0, none⟩), .pointer (some ⟨b2, 0, none⟩)] w (VisPost (FiJ B w0 φ br g b1 b2) B φ g c x (firstV fs es n m x s)) := by
  have hn12 := R.ok.pos
  obtain ⟨φx, hle, hix, sx, _⟩ := hO.release hJ.h.inv
  have Rx := R.mono hle
  have JH := Lib.hid hJ
  have OH := Lib.hid hO
  have c1 : w.cell? ⟨b1, 0, none⟩ = some (.pointer (some ⟨br, 0, none⟩)) := hJ.k.cell 0
  have hfx := Lib.hid hix.fz
  obtain ⟨p, hp⟩ : ∃ p, Hid (passB fs es x n m = p) := ⟨_, Lib.hid rfl⟩
  obtain ⟨q, hq⟩ : ∃ q, Hid (firstV fs es n m x s = q) := ⟨_, Lib.hid rfl⟩
  rw [hq.out]
  clear hJ hO hle hix
  cases p
  case false =>
    have hq2 : q = (s, false) := by rw [← hq.out, firstV, hp.out]; rfl
    have HQ := Lib.hid hq2
    clear hq2
    go_enter Tryd.func112, Tryd.ntmps112
    go_wp2_with (go_at_call 25; refine (passes_any Rx w hfx.out _ c x sx hx hp).mono ?_; rintro e w' ⟨rfl, hb⟩)
    go_ret
    rw [HQ.out]
    exact ⟨rfl, JH.out.callB hb, OH.out.callB hb⟩
  case true =>
    have hq2 : q = (x, true) := by rw [← hq.out, firstV, hp.out]; rfl
    have HQ := Lib.hid hq2
    clear hq2
    go_enter Tryd.func112, Tryd.ntmps112
    go_wp2_with fail
    refine (passes_any Rx w hfx.out _ c x sx hx hp).mono ?_
    rintro e w1 ⟨rfl, hb⟩
    have HB := Lib.hid hb
    clear hb c1
    go_wp2_with fail
    refine (Clone_any (hfx.out.below HB.out) sx hx (by omega)).mono ?_
    rintro e w2 ⟨a2, c2, rfl, hi2, ho2⟩
    have hb2 := Lib.hid (HB.out.trans (hi2.bel.mono HB.out.size))
    have ho3 := Lib.hid (ho2.base HB.out.size)
    have h2 := JH.out.callB hb2.out
    obtain ⟨_, a0, cap0, _, _, _, _, k5⟩ := h2.h.ex
    have k6 : w2.cell? ⟨b2, 0, none⟩ = some (.slice a0 s.length cap0) := k5.cell 0
    have k7 : w2.frozen? ⟨b2, 0, none⟩ = false := k5.frz 0
    clear hi2 ho2 h2 k5
    go_wp2
    go_ret
    rw [HQ.out]
    have hlt := JH.out.h.lt
    exact ⟨rfl, JH.out.put hb2.out ho3.out, (OH.out.callB hb2.out).other (grown_set _ _ _ _) (fun y hy e => by cases hy; have e2 : g = b2 := Option.some.inj e; omega)⟩
end Go.Proofs.YtkfmadeeobalaaaDoor
