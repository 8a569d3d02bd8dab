/- The walks of each and of all with the method value passes. Conditions: none beyond what the claim form gives. -/
import Derived.Test.YtambgcijceecpaaDoorE22
namespace Go.Proofs.YtambgcijceecpaaDoor
open Go.RowKit
set_option linter.unusedVariables false
set_option maxRecDepth 100000 in
set_option maxHeartbeats 2000000 in
theorem each_passes
  {φ : Phi} {br : Nat} {fs : List Fld} {es : List Edt} {n m : Nat} {a : Option Addr} {cap : Nat} {ae : Option Addr} {ce : Nat} {ab : Option Addr} {cb : Nat} (R : RulV φ br fs es n m a cap ae ce ab cb)
    {σ : Type} {J : σ → World → Prop} {V : List Int → σ → σ × Bool} {B : Nat} {w0 : World} {g c : Nat} {af : Option Addr} {cf : Nat} {free : List Bool} (sf : SlV φ af cf free) (hfr : Hid (free.length = n)) 
    (hi : ∀ s w, J s w → Inv B w0 φ φ w) (hset : ∀ s w k v, J s w → J s (w.setCell ⟨g, k, none⟩ v))
    (hV : ∀ x s w, Hid (x.length = n) → J s w → Own B φ w 3 (some ⟨g, 0, none⟩) c x → Calls Tryd.prog 34 #[.pointer (some ⟨br, 0, none⟩), .slice (some ⟨g, 0, none⟩) n c] w (fun e w' => e = .returned (.bool (V x s).2) ∧ J (V x s).1 w' ∧ Own B φ w' 3 (some ⟨g, 0, none⟩) c x)) :
    ∀ (r f : Nat), n - f = r → f ≤ n → ∀ (fi : Int), fi = (f : Int) → ∀ x s w, Hid (x.length = n) → J s w → Own B φ w 3 (some ⟨g, 0, none⟩) c x → ∀ {q : σ × Bool}, Hid (foldU V (comps fs free (n - f) f x) s = q) →
    Calls Tryd.prog 68 #[.pointer (some ⟨br, 0, none⟩), .slice (some ⟨g, 0, none⟩) n c, .slice af n cf, .int .i64 fi, .func (.func 34) #[.pointer (some ⟨br, 0, none⟩)] #[]] w
      (fun e w' => ∃ x', e = .returned (.bool q.2) ∧ Hid (x'.length = n) ∧ J q.1 w' ∧ Own B φ w' 3 (some ⟨g, 0, none⟩) c x' ∧ (q.2 = false → x' = x)) := by
  intro r
  induction r using Nat.strongRecOn with
  | ind r ih =>
  intro f hr hle fi hfi x s w hx hJ hO q hq
  subst hfi
  have hI := Lib.hid (hi s w hJ)
  have hn12 := R.ok.pos
  have r0 : w.cell? ⟨br, 0, none⟩ = some (.slice a n cap) := (R.blk hI.out.fz).cell 0
  have hJH := Lib.hid hJ
  have hOH := Lib.hid hO
  have IH := Lib.hid ih
  clear hJ hO ih
  go_enter Tryd.func68, Tryd.ntmps68
  go_wp2
  go_loop [3] (fun i => ∃ k : Nat, f ≤ k ∧ k ≤ n ∧ i = .int .i64 k ∧ Hid (∀ i, f ≤ i → i < k → free.getD i false = false)) (fun i => n - (intOf i).toNat)
  case atStart => exact ⟨f, Nat.le_refl _, hle, rfl, Lib.hid (fun i h1 h2 => by omega)⟩
  case round =>
    obtain ⟨k, hfk, hk, rfl, hok⟩ := hrel
    by_cases hlt : k < n
    · obtain ⟨b1, o1, ha, f1⟩ := sf.boolsD hfr hlt
      have d1 := (f1 k hlt w hI.out.fz).2
      subst ha
      clear f1
      obtain ⟨fb, hfb⟩ : ∃ fb, Hid (free.getD k false = fb) := ⟨_, Lib.hid rfl⟩
      rw [hfb.out] at d1
      cases fb
      case false =>
        clear r0
        go_wp2
        go_round
        case rel => exact ⟨k + 1, by omega, by omega, by go_num, Lib.hid (fun i h1 h2 => by
          by_cases e : i = k
          · subst e; exact hfb.out
          · exact hok.out i h1 (by omega))⟩
        case measure => simp [intOf]; omega
      case true =>
        have hq2 : Hid (foldU V ((fs.getD k fld0).2.1.flatMap (fun y => comps fs free (n - (k + 1)) (k + 1) (x.set k y))) s = q) := Lib.hid (by
          have h := hq.out
          rw [comps_to hfk (by omega) hok.out, show n - k = (n - (k + 1)) + 1 by omega, comps, if_pos hfb.out] at h
          exact h)
        have hfl := Lib.hid R.ok.len
        obtain ⟨b2, o2, ha2, f2⟩ := R.fv.fldD hfl hlt
        obtain ⟨a3, c3, s3, f2⟩ := f2 k hlt
        have d2 := (f2 w hI.out.fz).2.2.1
        have hcl := (fieldF_zero (fldBad_zero (R.ok.fld k hlt)).2.2).2.1
        subst ha2
        clear f2
        generalize (fs.getD k fld0).2.1 = cd at *
        obtain ⟨nc, hnc⟩ : ∃ nc, Hid (cd.length = nc) := ⟨_, Lib.hid rfl⟩
        rw [hnc.out] at d2 hcl
        have e3 := s3.capn
        have e4 := s3.capm
        rw [hnc.out] at e3
        unfold maxLen at e4
        obtain ⟨g', hg', hglt, fO⟩ := hOH.out.intsD hx hlt
        cases hg'
        have d3 := (fO k hlt).1
        clear fO
        generalize hold : x.getD k 0 = old at *
        replace hold := Lib.hid hold
        have hne : ((k : Int) == n) = false := by simp; omega
        go_wp2
        clear d1 d2 d3 r0 hne
        go_loopw [48] (fun i wr => ∃ (j : Nat) (x1 : List Int) (s1 : σ), j ≤ nc ∧ i = .int .i64 j ∧ Hid (x1.length = n) ∧ Hid (J s1 wr) ∧ Hid (Own B φ wr 3 (some ⟨g, 0, none⟩) c x1) ∧ Hid (∀ y, x1.set k y = x.set k y) ∧ Hid (foldU V ((cd.drop j).flatMap (fun y => comps fs free (n - (k + 1)) (k + 1) (x.set k y))) s1 = q)) (fun i _ => nc - (intOf i).toNat)
        case atStart => exact ⟨0, x, s, Nat.zero_le _, rfl, hx, hJH, hOH, Lib.hid (fun _ => rfl), Lib.hid (by rw [List.drop_zero]; exact hq2.out)⟩
        case round =>
          clear hJH hOH hI hq2
          obtain ⟨j, x1, s1, hj, rfl, hx1, hJ1, hO1, hx2, hq3⟩ := hrel
          have hI1 := Lib.hid (hi s1 wr hJ1.out)
          obtain ⟨g', hg', hglt1, fO⟩ := hO1.out.intsD hx1 hlt
          cases hg'
          obtain ⟨d3, d4, hst⟩ := fO k hlt
          have HST := Lib.hid hst
          clear fO hst
          by_cases hjl : j < nc
          · obtain ⟨b4, o4, ha4, f4⟩ := s3.intsD hnc hjl
            have d5 := (f4 j hjl wr hI1.out.fz).2
            subst ha4
            clear f4
            have hq4 : Hid (foldU V (comps fs free (n - (k + 1)) (k + 1) (x.set k (cd.getD j 0)) ++ (cd.drop (j + 1)).flatMap (fun y => comps fs free (n - (k + 1)) (k + 1) (x.set k y))) s1 = q) := Lib.hid (by
              have h := hq3.out
              rw [drop_getD (d := 0) (by rw [hnc.out]; exact hjl), List.flatMap_cons] at h
              exact h)
            generalize cd.getD j 0 = y at *
            obtain ⟨q2, hq5⟩ : ∃ q2, Hid (foldU V (comps fs free (n - (k + 1)) (k + 1) (x.set k y)) s1 = q2) := ⟨_, Lib.hid rfl⟩
            obtain ⟨s2, bb⟩ := q2
            have hq6 : Hid ((if bb = true then (s2, true) else foldU V ((cd.drop (j + 1)).flatMap (fun y => comps fs free (n - (k + 1)) (k + 1) (x.set k y))) s2) = q) := Lib.hid (by
              have h := hq4.out
              rw [foldU_append, hq5.out] at h
              exact h)
            have hO2 := Lib.hid (HST.out y w0 φ hI1.out).1
            rw [hx2.out y] at hO2
            have hJ2 := Lib.hid (hset s1 wr k (.int .i64 y) hJ1.out)
            have hlen : Hid ((x.set k y).length = n) := Lib.hid (by rw [List.length_set]; exact hx.out)
            have hgo := IH.out (n - (k + 1)) (by omega) (k + 1) rfl (by omega) ((k : Int) + 1) (by omega) (x.set k y) s1 _ hlen hJ2.out hO2.out hq5
            have HGO := Lib.hid hgo
            clear hgo hq4 hq5
            cases bb
            · go_wp2_with (go_at_call 68; refine HGO.out.mono ?_; rintro e w' ⟨x', rfl, hx', hJ', hO', hxx⟩)
              go_roundw
              case rel =>
                obtain rfl := hxx (by first | trivial | rfl)
                exact ⟨j + 1, _, s2, by omega, by go_num, hlen, Lib.hid hJ', Lib.hid hO', Lib.hid (fun z => by rw [List.set_set]), Lib.hid (by have h := hq6.out; rw [if_neg (by simp)] at h; exact h)⟩
              case measure => simp [intOf]; omega
            · go_wp2_with (go_at_call 68; refine HGO.out.mono ?_; rintro e w' ⟨x', rfl, hx', hJ', hO', hxx⟩)
              go_ret
              have h := hq6.out
              simp only [if_true] at h
              subst h
              exact ⟨x', rfl, hx', hJ', hO', fun h => by cases h⟩
          · obtain rfl : j = nc := by omega
            have hqe : q = (s1, false) := by
              have h := hq3.out
              rw [List.drop_eq_nil_of_le (by rw [hnc.out]; exact Nat.le_refl _)] at h
              exact h.symm
            have HQ := Lib.hid hqe
            clear hqe
            have hO2 := Lib.hid (HST.out old w0 φ hI1.out).1
            rw [hx2.out old, ← hold.out, set_getD (by rw [hx.out]; exact hlt), hold.out] at hO2
            have hJ2 := Lib.hid (hset s1 wr k (.int .i64 old) hJ1.out)
            go_wp2
            go_ret
            obtain rfl := HQ.out
            exact ⟨x, rfl, hx, hJ2.out, hO2.out, fun _ => rfl⟩
    · obtain rfl : k = n := by omega
      have hq2 : Hid (V x s = q) := Lib.hid (by
        have h := hq.out
        rw [comps_to hfk (Nat.le_refl _) hok.out, Nat.sub_self, comps, foldU_one] at h
        exact h)
      have hgo := Lib.hid (hV x s w hx hJH.out hOH.out)
      rw [hq2.out] at hgo
      have heq : ((k : Int) == k) = true := by simp
      clear r0
      go_wp2_with (go_at_call 34; refine hgo.out.mono ?_; rintro e w' ⟨rfl, hJ', hO'⟩)
      go_ret
      exact ⟨x, rfl, hx, hJ', hO', fun _ => rfl⟩
set_option maxRecDepth 100000 in
set_option maxHeartbeats 1000000 in
theorem all_passes
  {φ : Phi} {br : Nat} {fs : List Fld} {es : List Edt} {n m : Nat} {a : Option Addr} {cap : Nat} {ae : Option Addr} {ce : Nat} {ab : Option Addr} {cb : Nat} (R : RulV φ br fs es n m a cap ae ce ab cb)
    {σ : Type} {J : Nat → Phi → σ → World → Prop} {V : List Int → σ → σ × Bool} {B : Nat} {w0 : World}  (w : World) (s : σ) (hB : B ≤ w.heap.size) (hφ : Fz φ w)
    (h0 : ∀ g φ2 w', φ.le φ2 → Inv w.heap.size w φ φ2 w' → w.heap.size ≤ g → g < w'.heap.size → φ2 g = none → J g φ2 s w')
    (hi : ∀ g φ2 s w, J g φ2 s w → Inv B w0 φ2 φ2 w) (hset : ∀ g φ2 s w k v, J g φ2 s w → J g φ2 s (w.setCell ⟨g, k, none⟩ v))
    (hV : ∀ g c φ2, φ.le φ2 → ∀ x s w, Hid (x.length = n) → J g φ2 s w → Own B φ2 w 3 (some ⟨g, 0, none⟩) c x → Calls Tryd.prog 34 #[.pointer (some ⟨br, 0, none⟩), .slice (some ⟨g, 0, none⟩) n c] w (fun e w' => e = .returned (.bool (V x s).2) ∧ J g φ2 (V x s).1 w' ∧ Own B φ2 w' 3 (some ⟨g, 0, none⟩) c x))
    {q : σ × Bool} (hq : Hid (foldU V (comps fs (List.replicate n true) n 0 (List.replicate n 0)) s = q)) :
    Calls Tryd.prog 44 #[.pointer (some ⟨br, 0, none⟩), .func (.func 34) #[.pointer (some ⟨br, 0, none⟩)] #[]] w (AllPost J φ q) := by
  have hn12 := R.ok.pos
  have r0 : w.cell? ⟨br, 0, none⟩ = some (.slice a n cap) := (R.blk hφ).cell 0
  go_enter Tryd.func44, Tryd.ntmps44
  go_wp2_with (at_make; refine wpList_mkn (α := Bool) rfl _ _ 71 rfl slBo (Inv.start hφ) _ _ n false (fun _ => rfl) rfl rfl rfl (by omega) ?_; intro w1 hi1 hown1 hg1)
  rw [← onB_nil] at hown1
  have HS : Hid (Inv w.heap.size w φ φ w1 ∧ Own w.heap.size φ w1 4 (some ⟨w.heap.size, 0, none⟩) n (onB n 0)) := Lib.hid ⟨hi1, hown1⟩
  have H0 := Lib.hid h0
  clear hi1 hown1 hg1 r0 h0
  generalize hbf : w.heap.size = bf at *
  replace hbf := Lib.hid hbf
  go_loopw [18] (fun i wr => ∃ k : Nat, k ≤ n ∧ i = .int .i64 k ∧ Hid (Inv bf w φ φ wr ∧ Own bf φ wr 4 (some ⟨bf, 0, none⟩) n (onB n k))) (fun i _ => n - (intOf i).toNat)
  case atStart => exact ⟨0, Nat.zero_le _, rfl, HS⟩
  case round =>
    clear HS
    obtain ⟨k, hk, rfl, hS⟩ := hrel
    by_cases hlt : k < n
    · obtain ⟨g, hg, hgl, fO⟩ := hS.out.2.boolsD (Lib.hid (onB_len n _)) hlt
      cases hg
      obtain ⟨d3, d4, hst⟩ := fO k hlt
      have HST := Lib.hid (hst true w φ hS.out.1)
      clear fO hst
      go_wp2
      go_roundw
      case rel => exact ⟨k + 1, by omega, by go_num, Lib.hid ⟨HST.out.2, by rw [← onB_step]; exact HST.out.1⟩⟩
      case measure => simp [intOf]; omega
    · obtain rfl : k = n := by omega
      have hO3 := hS.out.2
      rw [onB_all] at hO3
      obtain ⟨φ2, l2, hi2, s2, f2⟩ := hO3.release hS.out.1
      have L2 := Lib.hid l2
      have I2 := Lib.hid hi2
      have S2 := Lib.hid s2
      have R2 := R.mono L2.out
      clear l2 hi2 s2 f2 hO3 hS
      go_wp2_with (at_make; refine wpList_mkn (α := Int) rfl _ _ 26 rfl slI I2.out _ _ k 0 (fun _ => rfl) rfl rfl rfl (by omega) ?_; intro w3 hi3 hown3 hg3)
      have hsz := I2.out.size
      have hgn := (hown3.free _ rfl)
      have hgl := (hown3.lt _ rfl).2
      have HJ := Lib.hid (H0.out wr.heap.size φ2 w3 L2.out hi3 hsz hgl hgn)
      have HO := Lib.hid (hown3.base hB)
      clear hi3 hown3 hg3 hgn hgl
      generalize wr.heap.size = g at *
      go_wp2_with (go_at_call 68; refine (each_passes (R2) (J := J g φ2) (V := V) S2.out (Lib.hid (List.length_replicate)) (fun s w h => hi g φ2 s w h) (fun s w k v h => hset g φ2 s w k v h) (fun x s w hx hJ hO => hV g k φ2 L2.out x s w hx hJ hO) k 0 rfl (Nat.zero_le _) 0 rfl (List.replicate k 0) s w3 (Lib.hid (List.length_replicate)) HJ.out HO.out hq).mono ?_; rintro e w6 ⟨x6, rfl, hx6, hJ6, hO6, _⟩)
      go_ret
      exact ⟨rfl, g, φ2, L2.out, hJ6⟩
/-- The visit of a record that asks if it passes. -/
def passV (fs : List Fld) (es : List Edt) (n m : Nat) (x : List Int) (_ : Unit) : Unit × Bool := ((), passB fs es x n m)
theorem foldU_pass {fs : List Fld} {es : List Edt} {n m : Nat} : ∀ (l : List (List Int)), foldU (passV fs es n m) l () = ((), l.any (fun x => passB fs es x n m))
  | [] => rfl
  | x :: l => by
    rw [foldU, List.any_cons, foldU_pass l]
    unfold passV
    cases passB fs es x n m <;> rfl
theorem allPass_any
  {φ : Phi} {br : Nat} {fs : List Fld} {es : List Edt} {n m : Nat} {a : Option Addr} {cap : Nat} {ae : Option Addr} {ce : Nat} {ab : Option Addr} {cb : Nat} (R : RulV φ br fs es n m a cap ae ce ab cb)
    (w : World) (hφ : Fz φ w) {q : Bool} (hq : Hid ((allR fs n).any (fun x => passB fs es x n m) = q)) :
    Calls Tryd.prog 44 #[.pointer (some ⟨br, 0, none⟩), .func (.func 34) #[.pointer (some ⟨br, 0, none⟩)] #[]] w (fun e w' => e = .returned (.bool q) ∧ Below w.heap.size w w') := by
  refine (all_passes (R) (σ := Unit) (J := fun g φ2 _ w' => φ.le φ2 ∧ Inv w.heap.size w φ2 φ2 w' ∧ w.heap.size ≤ g ∧ φ2 g = none) (V := passV fs es n m) (B := w.heap.size) (w0 := w) w () (Nat.le_refl _) hφ (fun g φ2 w' hl hi h1 h2 h3 => ⟨hl, hi.toSelf, h1, h3⟩) (fun g φ2 s w h => h.2.1) (fun g φ2 s w k v h => ⟨h.1, h.2.1.setCell h.2.2.1 h.2.2.2 v, h.2.2.1, h.2.2.2⟩) (fun g c φ2 hl x s w1 hx hJ hO => ?_) (Lib.hid (foldU_pass (fs := fs) (es := es) (n := n) (m := m) (allR fs n)))).mono ?_
  · obtain ⟨φx, hle, hix, sx, _⟩ := hO.release hJ.2.1
    refine (passes_any ((R.mono hl).mono hle) w1 hix.fz _ c x sx hx (Lib.hid rfl)).mono ?_
    rintro e w2 ⟨rfl, hb⟩
    exact ⟨rfl, ⟨hJ.1, hJ.2.1.callB hb, hJ.2.2.1, hJ.2.2.2⟩, hO.callB hb⟩
  · rintro e w' ⟨rfl, g, φ2, _, hJ⟩
    exact ⟨ret_bool hq.out, hJ.2.1.bel⟩
end Go.Proofs.YtambgcijceecpaaDoor
