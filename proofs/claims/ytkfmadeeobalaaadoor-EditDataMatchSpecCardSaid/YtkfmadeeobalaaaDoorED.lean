/- The walks of needed's second closure, of IndexFunc and of ContainsFunc with it. Slices of slices in a captured cell, next to a row that is written; the walk of needed's first closure. The walks of each and of all with a bound on the visits; with needed's first closure. The walks of each and of all with the method value passes. What all answers with passes; the runs of needed as a list. The lists of runs of each edit: the plain law of needed. Conditions: none beyond what the claim form gives. -/
import Derived.Test.YtkfmadeeobalaaaDoorEC
import Derived.Test.YtkfmadeeobalaaaDoorQD
namespace Go.Proofs.YtkfmadeeobalaaaDoor
open Go.RowKit
set_option linter.unusedVariables false
end Go.Proofs.YtkfmadeeobalaaaDoor

namespace Go.Proofs.YtkfmadeeobalaaaDoor
open Go.RowKit
set_option linter.unusedVariables false
/-- A captured cell (block bo) holds a slice of slices that the call owns and that reads as s; row g may be written. -/
structure HoldL (B : Nat) (w0 : World) (φ : Phi) (g bo : Nat) (T : TypeId) (s : List (List Int)) (w : World) : Prop where
  inv : Inv B w0 φ φ w
  ex : ∃ φ3 a cap, Inv B w0 φ φ3 w ∧ (∀ b, b ≤ g → φ b = none → φ3 b = none) ∧ Own B φ3 w 32 a cap s ∧ (∀ x, a = some x → g < x.block) ∧ Blk w bo #[.slice a s.length cap] T
  fg : φ g = none
  fo : φ bo = none
  lo : B ≤ bo
  lt : bo < g
  gw : g < w.heap.size
section
variable {B : Nat} {w0 w w' : World} {φ : Phi} {g bo : Nat} {T : TypeId} {s : List (List Int)}
theorem HoldL.callB (h : HoldL B w0 φ g bo T s w) (hb : Below w.heap.size w w') : HoldL B w0 φ g bo T s w' := by
  obtain ⟨φ3, a, cap, h1, h2, h3, h4, h5⟩ := h.ex
  exact ⟨h.inv.callB hb, ⟨φ3, a, cap, h1.callB hb, h2, h3.callB hb, h4, h5.callB hb⟩, h.fg, h.fo, h.lo, h.lt, Nat.lt_of_lt_of_le h.gw hb.size⟩
theorem HoldL.row (h : HoldL B w0 φ g bo T s w) (k : Nat) (v : Value) : HoldL B w0 φ g bo T s (w.setCell ⟨g, k, none⟩ v) := by
  obtain ⟨φ3, a, cap, h1, h2, h3, h4, h5⟩ := h.ex
  have hB : B ≤ g := by have := h.lo; have := h.lt; omega
  have hlt := h.lt
  exact ⟨h.inv.setCell hB h.fg v, ⟨φ3, a, cap, h1.setCell hB (h2 g (Nat.le_refl _) h.fg) v, h2, h3.other (grown_set w g k v) (fun x hx e => by have := h4 x hx; have e2 := Option.some.inj e; omega), h4, h5.other (by show g ≠ bo; omega) v⟩, h.fg, h.fo, h.lo, h.lt, by have := h.gw; simpa [World.setCell] using this⟩
theorem HoldL.start (hi : Inv B w0 φ φ w) (h5 : Blk w bo #[.slice none 0 0] T) (fg : φ g = none) (fo : φ bo = none) (lo : B ≤ bo) (lt : bo < g) (gw : g < w.heap.size) : HoldL B w0 φ g bo T [] w :=
  ⟨hi, ⟨φ, none, 0, hi, fun _ _ h => h, Own.nil _ _ _ _, (fun _ h => by cases h), h5⟩, fg, fo, lo, lt, gw⟩
/-- A slice of ints comes back: what the append of it asks. -/
theorem HoldL.open_ (h : HoldL B w0 φ g bo T s w) (hb : Below w.heap.size w w') {ψ : Phi} {al : Option Addr} {cl : Nat} {l : List Int} (ho : Own w.heap.size ψ w' 3 al cl l) :
    ∃ φ4 a cap, Inv B w0 φ φ4 w' ∧ (∀ b, b ≤ g → φ b = none → φ4 b = none) ∧ Own B φ4 w' 32 a cap s ∧ (∀ x, a = some x → g < x.block) ∧ Blk w' bo #[.slice a s.length cap] T ∧ SlV φ4 al cl l := by
  obtain ⟨φ3, a, cap, h1, h2, h3, h4, h5⟩ := h.ex
  have hgw := h.gw
  have hl := (ho.ints (ψ := φ3) (fun x hx => h1.fz.new_none (ho.lt x hx).1)).base h.inv.size
  obtain ⟨φ4, l4, i4, s4, f4⟩ := hl.release (h1.callB hb)
  have hne : ∀ b, b < w.heap.size → φ4 b = φ3 b := fun b hbw => f4 b (fun e => by
    cases al with
    | none => cases e
    | some x => have h1 := (ho.lt x rfl).1; have e2 : b = x.block := by simpa using e
                omega)
  obtain ⟨⟨cells, hr, hll⟩, hfr⟩ := h3.callB hb
  refine ⟨φ4, a, cap, i4, fun b hbg hφ => (hne b (by omega)).trans (h2 b hbg hφ), ⟨⟨cells, hr, hll.mono l4⟩, fun y hy => (hne _ (h3.lt y hy).2).trans (hfr y hy)⟩, h4, h5.callB hb, s4⟩
theorem HoldL.cell2 {w1 w2 : World} {a : Option Addr} {cs : Array Value} {o : Obj} (h : HoldL B w0 φ g bo T s w) (hb : Below w.heap.size w w1) (hf : ∀ x, a = some x → g < x.block) (hk : Blk w1 bo cs T) (hg : (w1.alloc o).grownBy w2 (a.map (·.block))) : Blk w2 bo cs T := by
  have hgw := h.gw
  have hlt := h.lt
  have hsz := hb.size
  have hsa : (w1.alloc o).heap.size = w1.heap.size + 1 := alloc_size _ _
  exact (hg.block bo (by omega) (fun e => by
    cases a with
    | none => cases e
    | some z => have := hf z rfl; have e2 : bo = z.block := by simpa using e
                omega)).trans (hk.alloc o)
/-- The longer slice is laid into the cell. -/
theorem HoldL.put {w1 w2 : World} {φ4 : Phi} {a a' : Option Addr} {cap cap' : Nat} {s' : List (List Int)} {o : Obj} (h : HoldL B w0 φ g bo T s w) (hb : Below w.heap.size w w1) (hn : ∀ b, b ≤ g → φ b = none → φ4 b = none) (hf : ∀ x, a = some x → g < x.block) (hk : Blk w1 bo #[.slice a s.length cap] T)
    (hi : Inv B w0 φ φ4 w2) (ho : Own B φ4 w2 32 a' cap' s') (hg : (w1.alloc o).grownBy w2 (a.map (·.block))) (hfr : ∀ x, a' = some x → a.map (·.block) = some x.block ∨ (w1.alloc o).heap.size ≤ x.block) : HoldL B w0 φ g bo T s' (w2.setCell ⟨bo, 0, none⟩ (.slice a' s'.length cap')) := by
  have hgw := h.gw
  have hlt := h.lt
  have hlo := h.lo
  have hsz := hb.size
  have hsa : (w1.alloc o).heap.size = w1.heap.size + 1 := alloc_size _ _
  have hgs := hg.size
  have hf' : ∀ x, a' = some x → g < x.block := fun x hx => by
    rcases hfr x hx with e | e
    · cases a with
      | none => cases e
      | some z => have := hf z rfl; have e2 : z.block = x.block := by simpa using e
                  omega
    · omega
  have k2 : Blk w2 bo #[.slice a s.length cap] T := (hg.block bo (by omega) (fun e => by
    cases a with
    | none => cases e
    | some z => have := hf z rfl; have e2 : bo = z.block := by simpa using e
                omega)).trans (hk.alloc o)
  have i0 : Inv B w0 φ φ w2 := ⟨hi.bel, hi.base, hi.fz.sub hi.le, φ.le_refl, fun _ _ => rfl⟩
  refine ⟨i0.setCell hlo h.fo _, ⟨φ4, a', cap', hi.setCell hlo (hn bo (by omega) h.fo) _, hn, ho.other (grown_set w2 bo 0 _) (fun x hx e => by have := hf' x hx; have e2 := Option.some.inj e; omega), hf', k2.set 0 _⟩, h.fg, h.fo, h.lo, h.lt, ?_⟩
  have e : (w2.setCell ⟨bo, 0, none⟩ (.slice a' s'.length cap')).heap.size = w2.heap.size := by simp [World.setCell]
  omega
/-- What the cell holds in the end. -/
theorem HoldL.out (h : HoldL B w0 φ g bo T s w) : ∃ φ3 a cap, φ.le φ3 ∧ Inv B w0 φ φ3 w ∧ SlV φ3 a cap s ∧ Blk w bo #[.slice a s.length cap] T := by
  obtain ⟨φ3, a, cap, h1, h2, h3, h4, h5⟩ := h.ex
  obtain ⟨φ4, l4, i4, s4, _⟩ := h3.release h1
  exact ⟨φ4, a, cap, i4.le, i4, s4, h5⟩
end
/-- The lists of failed edits, of the records that fail one. -/
def runsV (es : List Edt) (n m : Nat) (x : List Int) (s : List (List Int)) : List (List Int) × Bool := (if (failL es x n m).length = 0 then s else s ++ [failL es x n m], false)
/-- The state of needed's first closure. -/
structure NeJ (B : Nat) (w0 : World) (φ : Phi) (br g b1 b2 : Nat) (s : List (List Int)) (w : World) : Prop where
  h : HoldL B w0 φ g b2 26 s w
  k : Blk w b1 #[.pointer (some ⟨br, 0, none⟩)] 63
  lt : b1 < b2
theorem NeJ.row {B : Nat} {w0 w : World} {φ : Phi} {br g b1 b2 : Nat} {s : List (List Int)} (h : NeJ B w0 φ br g b1 b2 s w) (k : Nat) (v : Value) : NeJ B w0 φ br g b1 b2 s (w.setCell ⟨g, k, none⟩ v) :=
  ⟨h.h.row k v, h.k.other (by have := h.lt; have := h.h.lt; show g ≠ b1; omega) v, h.lt⟩
theorem NeJ.callB {B : Nat} {w0 w w' : World} {φ : Phi} {br g b1 b2 : Nat} {s : List (List Int)} (h : NeJ B w0 φ br g b1 b2 s w) (hb : Below w.heap.size w w') : NeJ B w0 φ br g b1 b2 s w' := ⟨h.h.callB hb, h.k.callB hb, h.lt⟩
end Go.Proofs.YtkfmadeeobalaaaDoor

namespace Go.Proofs.YtkfmadeeobalaaaDoor
open Go.RowKit
set_option linter.unusedVariables false
theorem foldU_cnt {σ α : Type} {V : α → σ → σ × Bool} {cnt : σ → Nat} (h : ∀ x s, cnt (V x s).1 ≤ cnt s + 1) : ∀ (l : List α) (s : σ), cnt (foldU V l s).1 ≤ cnt s + l.length
  | [], s => Nat.le_refl _
  | x :: l, s => by
    rw [foldU]
    have h1 := h x s
    split
    · rw [List.length_cons]; show cnt (V x s).1 ≤ _; omega
    · have h2 := foldU_cnt h l (V x s).1
      rw [List.length_cons]; omega
end Go.Proofs.YtkfmadeeobalaaaDoor

namespace Go.Proofs.YtkfmadeeobalaaaDoor
open Go.RowKit
set_option linter.unusedVariables false
set_option maxRecDepth 100000 in
set_option maxHeartbeats 2000000 in
theorem each_passes
  {φ : Phi} {br : Nat} {fs : List Fld} {es : List Edt} {n m : Nat} {a : Option Addr} {cap : Nat} {ae : Option Addr} {ce : Nat} {ab : Option Addr} {cb : Nat} (R : RulV φ br fs es n m a cap ae ce ab cb)
    {σ : Type} {J : σ → World → Prop} {V : List Int → σ → σ × Bool} {B : Nat} {w0 : World} {g c : Nat} {af : Option Addr} {cf : Nat} {free : List Bool} (sf : SlV φ af cf free) (hfr : Hid (free.length = n)) 
    (hi : ∀ s w, J s w → Inv B w0 φ φ w) (hset : ∀ s w k v, J s w → J s (w.setCell ⟨g, k, none⟩ v))
    (hV : ∀ x s w, Hid (x.length = n) → J s w → Own B φ w 3 (some ⟨g, 0, none⟩) c x → Calls Tryd.prog 25 #[.pointer (some ⟨br, 0, none⟩), .slice (some ⟨g, 0, none⟩) n c] w (fun e w' => e = .returned (.bool (V x s).2) ∧ J (V x s).1 w' ∧ Own B φ w' 3 (some ⟨g, 0, none⟩) c x)) :
    ∀ (r f : Nat), n - f = r → f ≤ n → ∀ (fi : Int), fi = (f : Int) → ∀ x s w, Hid (x.length = n) → J s w → Own B φ w 3 (some ⟨g, 0, none⟩) c x → ∀ {q : σ × Bool}, Hid (foldU V (comps fs free (n - f) f x) s = q) →
    Calls Tryd.prog 68 #[.pointer (some ⟨br, 0, none⟩), .slice (some ⟨g, 0, none⟩) n c, .slice af n cf, .int .i64 fi, .func (.func 25) #[.pointer (some ⟨br, 0, none⟩)] #[]] w
      (fun e w' => ∃ x', e = .returned (.bool q.2) ∧ Hid (x'.length = n) ∧ J q.1 w' ∧ Own B φ w' 3 (some ⟨g, 0, none⟩) c x' ∧ (q.2 = false → x' = x)) := by
  intro r
  induction r using Nat.strongRecOn with
  | ind r ih =>
  intro f hr hle fi hfi x s w hx hJ hO q hq
  subst hfi
  have hI := Lib.hid (hi s w hJ)
  have hn12 := R.ok.pos
  have r0 : w.cell? ⟨br, 0, none⟩ = some (.slice a n cap) := (R.blk hI.out.fz).cell 0
  have hJH := Lib.hid hJ
  have hOH := Lib.hid hO
  have IH := Lib.hid ih
  clear hJ hO ih
  go_enter Tryd.func68, Tryd.ntmps68
  go_wp2
  go_loop [3] (fun i => ∃ k : Nat, f ≤ k ∧ k ≤ n ∧ i = .int .i64 k ∧ Hid (∀ i, f ≤ i → i < k → free.getD i false = false)) (fun i => n - (intOf i).toNat)
  case atStart => exact ⟨f, Nat.le_refl _, hle, rfl, Lib.hid (fun i h1 h2 => by omega)⟩
  case round =>
    obtain ⟨k, hfk, hk, rfl, hok⟩ := hrel
    by_cases hlt : k < n
    · obtain ⟨b1, o1, ha, f1⟩ := sf.boolsD hfr hlt
      have d1 := (f1 k hlt w hI.out.fz).2
      subst ha
      clear f1
      obtain ⟨fb, hfb⟩ : ∃ fb, Hid (free.getD k false = fb) := ⟨_, Lib.hid rfl⟩
      rw [hfb.out] at d1
      cases fb
      case false =>
        clear r0
        go_wp2
        go_round
        case rel => exact ⟨k + 1, by omega, by omega, by go_num, Lib.hid (fun i h1 h2 => by
          by_cases e : i = k
          · subst e; exact hfb.out
          · exact hok.out i h1 (by omega))⟩
        case measure => (simp [intOf] <;> omega)
      case true =>
        have hq2 : Hid (foldU V ((fs.getD k fld0).2.1.flatMap (fun y => comps fs free (n - (k + 1)) (k + 1) (x.set k y))) s = q) := Lib.hid (by
          have h := hq.out
          rw [comps_to hfk (by omega) hok.out, show n - k = (n - (k + 1)) + 1 by omega, comps, if_pos hfb.out] at h
          exact h)
        have hfl := Lib.hid R.ok.len
        obtain ⟨b2, o2, ha2, f2⟩ := R.fv.fldD hfl hlt
        obtain ⟨a3, c3, s3, f2⟩ := f2 k hlt
        have d2 := (f2 w hI.out.fz).2.2.1
        have hcl := (fieldF_zero (fldBad_zero (R.ok.fld k hlt)).2.2).2.1
        subst ha2
        clear f2
        generalize (fs.getD k fld0).2.1 = cd at *
        obtain ⟨nc, hnc⟩ : ∃ nc, Hid (cd.length = nc) := ⟨_, Lib.hid rfl⟩
        rw [hnc.out] at d2 hcl
        have e3 := s3.capn
        have e4 := s3.capm
        rw [hnc.out] at e3
        unfold maxLen at e4
        obtain ⟨g', hg', hglt, fO⟩ := hOH.out.intsD hx hlt
        cases hg'
        have d3 := (fO k hlt).1
        clear fO
        generalize hold : x.getD k 0 = old at *
        replace hold := Lib.hid hold
        have hne : ((k : Int) == n) = false := by simp; omega
        go_wp2
        clear d1 d2 d3 r0 hne
        go_loopw [48] (fun i wr => ∃ (j : Nat) (x1 : List Int) (s1 : σ), j ≤ nc ∧ i = .int .i64 j ∧ Hid (x1.length = n) ∧ Hid (J s1 wr) ∧ Hid (Own B φ wr 3 (some ⟨g, 0, none⟩) c x1) ∧ Hid (∀ y, x1.set k y = x.set k y) ∧ Hid (foldU V ((cd.drop j).flatMap (fun y => comps fs free (n - (k + 1)) (k + 1) (x.set k y))) s1 = q)) (fun i _ => nc - (intOf i).toNat)
        case atStart => exact ⟨0, x, s, Nat.zero_le _, rfl, hx, hJH, hOH, Lib.hid (fun _ => rfl), Lib.hid (by rw [List.drop_zero]; exact hq2.out)⟩
        case round =>
          clear hJH hOH hI hq2
          obtain ⟨j, x1, s1, hj, rfl, hx1, hJ1, hO1, hx2, hq3⟩ := hrel
          have hI1 := Lib.hid (hi s1 wr hJ1.out)
          obtain ⟨g', hg', hglt1, fO⟩ := hO1.out.intsD hx1 hlt
          cases hg'
          obtain ⟨d3, d4, hst⟩ := fO k hlt
          have HST := Lib.hid hst
          clear fO hst
          by_cases hjl : j < nc
          · obtain ⟨b4, o4, ha4, f4⟩ := s3.intsD hnc hjl
            have d5 := (f4 j hjl wr hI1.out.fz).2
            subst ha4
            clear f4
            have hq4 : Hid (foldU V (comps fs free (n - (k + 1)) (k + 1) (x.set k (cd.getD j 0)) ++ (cd.drop (j + 1)).flatMap (fun y => comps fs free (n - (k + 1)) (k + 1) (x.set k y))) s1 = q) := Lib.hid (by
              have h := hq3.out
              rw [drop_getD (d := 0) (by rw [hnc.out]; exact hjl), List.flatMap_cons] at h
              exact h)
            generalize cd.getD j 0 = y at *
            obtain ⟨q2, hq5⟩ : ∃ q2, Hid (foldU V (comps fs free (n - (k + 1)) (k + 1) (x.set k y)) s1 = q2) := ⟨_, Lib.hid rfl⟩
            obtain ⟨s2, bb⟩ := q2
            have hq6 : Hid ((if bb = true then (s2, true) else foldU V ((cd.drop (j + 1)).flatMap (fun y => comps fs free (n - (k + 1)) (k + 1) (x.set k y))) s2) = q) := Lib.hid (by
              have h := hq4.out
              rw [foldU_append, hq5.out] at h
              exact h)
            have hO2 := Lib.hid (HST.out y w0 φ hI1.out).1
            rw [hx2.out y] at hO2
            have hJ2 := Lib.hid (hset s1 wr k (.int .i64 y) hJ1.out)
            have hlen : Hid ((x.set k y).length = n) := Lib.hid (by rw [List.length_set]; exact hx.out)
            have hgo := IH.out (n - (k + 1)) (by omega) (k + 1) rfl (by omega) ((k : Int) + 1) (by omega) (x.set k y) s1 _ hlen hJ2.out hO2.out hq5
            have HGO := Lib.hid hgo
            clear hgo hq4 hq5
            cases bb
            · go_wp2_with (go_at_call 68; refine HGO.out.mono ?_; rintro e w' ⟨x', rfl, hx', hJ', hO', hxx⟩)
              go_roundw
              case rel =>
                obtain rfl := hxx (by first | trivial | rfl)
                exact ⟨j + 1, _, s2, by omega, by go_num, hlen, Lib.hid hJ', Lib.hid hO', Lib.hid (fun z => by rw [List.set_set]), Lib.hid (by have h := hq6.out; rw [if_neg (by simp)] at h; exact h)⟩
              case measure => (simp [intOf] <;> omega)
            · go_wp2_with (go_at_call 68; refine HGO.out.mono ?_; rintro e w' ⟨x', rfl, hx', hJ', hO', hxx⟩)
              go_ret
              have h := hq6.out
              simp only [if_true] at h
              subst h
              exact ⟨x', rfl, hx', hJ', hO', fun h => by cases h⟩
          · obtain rfl : j = nc := by omega
            have hqe : q = (s1, false) := by
              have h := hq3.out
              rw [List.drop_eq_nil_of_le (by rw [hnc.out]; exact Nat.le_refl _)] at h
              exact h.symm
            have HQ := Lib.hid hqe
            clear hqe
            have hO2 := Lib.hid (HST.out old w0 φ hI1.out).1
            rw [hx2.out old, ← hold.out, set_getD (by rw [hx.out]; exact hlt), hold.out] at hO2
            have hJ2 := Lib.hid (hset s1 wr k (.int .i64 old) hJ1.out)
            go_wp2
            go_ret
            obtain rfl := HQ.out
            exact ⟨x, rfl, hx, hJ2.out, hO2.out, fun _ => rfl⟩
    · obtain rfl : k = n := by omega
      have hq2 : Hid (V x s = q) := Lib.hid (by
        have h := hq.out
        rw [comps_to hfk (Nat.le_refl _) hok.out, Nat.sub_self, comps, foldU_one] at h
        exact h)
      have hgo := Lib.hid (hV x s w hx hJH.out hOH.out)
      rw [hq2.out] at hgo
      have heq : ((k : Int) == k) = true := by simp
      clear r0
      go_wp2_with (go_at_call 25; refine hgo.out.mono ?_; rintro e w' ⟨rfl, hJ', hO'⟩)
      go_ret
      exact ⟨x, rfl, hx, hJ', hO', fun _ => rfl⟩
set_option maxRecDepth 100000 in
set_option maxHeartbeats 1000000 in
theorem all_passes
  {φ : Phi} {br : Nat} {fs : List Fld} {es : List Edt} {n m : Nat} {a : Option Addr} {cap : Nat} {ae : Option Addr} {ce : Nat} {ab : Option Addr} {cb : Nat} (R : RulV φ br fs es n m a cap ae ce ab cb)
    {σ : Type} {J : Nat → Phi → σ → World → Prop} {V : List Int → σ → σ × Bool} {B : Nat} {w0 : World}  (w : World) (s : σ) (hB : B ≤ w.heap.size) (hφ : Fz φ w)
    (h0 : ∀ g φ2 w', φ.le φ2 → Inv w.heap.size w φ φ2 w' → w.heap.size ≤ g → g < w'.heap.size → φ2 g = none → J g φ2 s w')
    (hi : ∀ g φ2 s w, J g φ2 s w → Inv B w0 φ2 φ2 w) (hset : ∀ g φ2 s w k v, J g φ2 s w → J g φ2 s (w.setCell ⟨g, k, none⟩ v))
    (hV : ∀ g c φ2, φ.le φ2 → ∀ x s w, Hid (x.length = n) → J g φ2 s w → Own B φ2 w 3 (some ⟨g, 0, none⟩) c x → Calls Tryd.prog 25 #[.pointer (some ⟨br, 0, none⟩), .slice (some ⟨g, 0, none⟩) n c] w (fun e w' => e = .returned (.bool (V x s).2) ∧ J g φ2 (V x s).1 w' ∧ Own B φ2 w' 3 (some ⟨g, 0, none⟩) c x))
    {q : σ × Bool} (hq : Hid (foldU V (comps fs (List.replicate n true) n 0 (List.replicate n 0)) s = q)) :
    Calls Tryd.prog 24 #[.pointer (some ⟨br, 0, none⟩), .func (.func 25) #[.pointer (some ⟨br, 0, none⟩)] #[]] w (AllPost J φ q) := by
  have hn12 := R.ok.pos
  have r0 : w.cell? ⟨br, 0, none⟩ = some (.slice a n cap) := (R.blk hφ).cell 0
  go_enter Tryd.func24, Tryd.ntmps24
  go_wp2_with (at_make; refine wpList_mkn (α := Bool) rfl _ _ 75 rfl slBo (Inv.start hφ) _ _ n false (fun _ => rfl) rfl rfl rfl (by omega) ?_; intro w1 hi1 hown1 hg1)
  rw [← onB_nil] at hown1
  have HS : Hid (Inv w.heap.size w φ φ w1 ∧ Own w.heap.size φ w1 4 (some ⟨w.heap.size, 0, none⟩) n (onB n 0)) := Lib.hid ⟨hi1, hown1⟩
  have H0 := Lib.hid h0
  clear hi1 hown1 hg1 r0 h0
  generalize hbf : w.heap.size = bf at *
  replace hbf := Lib.hid hbf
  go_loopw [18] (fun i wr => ∃ k : Nat, k ≤ n ∧ i = .int .i64 k ∧ Hid (Inv bf w φ φ wr ∧ Own bf φ wr 4 (some ⟨bf, 0, none⟩) n (onB n k))) (fun i _ => n - (intOf i).toNat)
  case atStart => exact ⟨0, Nat.zero_le _, rfl, HS⟩
  case round =>
    clear HS
    obtain ⟨k, hk, rfl, hS⟩ := hrel
    by_cases hlt : k < n
    · obtain ⟨g, hg, hgl, fO⟩ := hS.out.2.boolsD (Lib.hid (onB_len n _)) hlt
      cases hg
      obtain ⟨d3, d4, hst⟩ := fO k hlt
      have HST := Lib.hid (hst true w φ hS.out.1)
      clear fO hst
      go_wp2
      go_roundw
      case rel => exact ⟨k + 1, by omega, by go_num, Lib.hid ⟨HST.out.2, by rw [← onB_step]; exact HST.out.1⟩⟩
      case measure => (simp [intOf] <;> omega)
    · obtain rfl : k = n := by omega
      have hO3 := hS.out.2
      rw [onB_all] at hO3
      obtain ⟨φ2, l2, hi2, s2, f2⟩ := hO3.release hS.out.1
      have L2 := Lib.hid l2
      have I2 := Lib.hid hi2
      have S2 := Lib.hid s2
      have R2 := R.mono L2.out
      clear l2 hi2 s2 f2 hO3 hS
      go_wp2_with (at_make; refine wpList_mkn (α := Int) rfl _ _ 32 rfl slI I2.out _ _ k 0 (fun _ => rfl) rfl rfl rfl (by omega) ?_; intro w3 hi3 hown3 hg3)
      have hsz := I2.out.size
      have hgn := (hown3.free _ rfl)
      have hgl := (hown3.lt _ rfl).2
      have HJ := Lib.hid (H0.out wr.heap.size φ2 w3 L2.out hi3 hsz hgl hgn)
      have HO := Lib.hid (hown3.base hB)
      clear hi3 hown3 hg3 hgn hgl
      generalize wr.heap.size = g at *
      go_wp2_with (go_at_call 68; refine (each_passes (R2) (J := J g φ2) (V := V) S2.out (Lib.hid (List.length_replicate)) (fun s w h => hi g φ2 s w h) (fun s w k v h => hset g φ2 s w k v h) (fun x s w hx hJ hO => hV g k φ2 L2.out x s w hx hJ hO) k 0 rfl (Nat.zero_le _) 0 rfl (List.replicate k 0) s w3 (Lib.hid (List.length_replicate)) HJ.out HO.out hq).mono ?_; rintro e w6 ⟨x6, rfl, hx6, hJ6, hO6, _⟩)
      go_ret
      exact ⟨rfl, g, φ2, L2.out, hJ6⟩
/-- The visit of a record that asks if it passes. -/
def passV (fs : List Fld) (es : List Edt) (n m : Nat) (x : List Int) (_ : Unit) : Unit × Bool := ((), passB fs es x n m)
theorem foldU_pass {fs : List Fld} {es : List Edt} {n m : Nat} : ∀ (l : List (List Int)), foldU (passV fs es n m) l () = ((), l.any (fun x => passB fs es x n m))
  | [] => rfl
  | x :: l => by
    rw [foldU, List.any_cons, foldU_pass l]
    unfold passV
    cases passB fs es x n m <;> rfl
theorem allPass_any
  {φ : Phi} {br : Nat} {fs : List Fld} {es : List Edt} {n m : Nat} {a : Option Addr} {cap : Nat} {ae : Option Addr} {ce : Nat} {ab : Option Addr} {cb : Nat} (R : RulV φ br fs es n m a cap ae ce ab cb)
    (w : World) (hφ : Fz φ w) {q : Bool} (hq : Hid ((allR fs n).any (fun x => passB fs es x n m) = q)) :
    Calls Tryd.prog 24 #[.pointer (some ⟨br, 0, none⟩), .func (.func 25) #[.pointer (some ⟨br, 0, none⟩)] #[]] w (fun e w' => e = .returned (.bool q) ∧ Below w.heap.size w w') := by
  refine (all_passes (R) (σ := Unit) (J := fun g φ2 _ w' => φ.le φ2 ∧ Inv w.heap.size w φ2 φ2 w' ∧ w.heap.size ≤ g ∧ φ2 g = none) (V := passV fs es n m) (B := w.heap.size) (w0 := w) w () (Nat.le_refl _) hφ (fun g φ2 w' hl hi h1 h2 h3 => ⟨hl, hi.toSelf, h1, h3⟩) (fun g φ2 s w h => h.2.1) (fun g φ2 s w k v h => ⟨h.1, h.2.1.setCell h.2.2.1 h.2.2.2 v, h.2.2.1, h.2.2.2⟩) (fun g c φ2 hl x s w1 hx hJ hO => ?_) (Lib.hid (foldU_pass (fs := fs) (es := es) (n := n) (m := m) (allR fs n)))).mono ?_
  · obtain ⟨φx, hle, hix, sx, _⟩ := hO.release hJ.2.1
    refine (passes_any ((R.mono hl).mono hle) w1 hix.fz _ c x sx hx (Lib.hid rfl)).mono ?_
    rintro e w2 ⟨rfl, hb⟩
    exact ⟨rfl, ⟨hJ.1, hJ.2.1.callB hb, hJ.2.2.1, hJ.2.2.2⟩, hO.callB hb⟩
  · rintro e w' ⟨rfl, g, φ2, _, hJ⟩
    exact ⟨ret_bool hq.out, hJ.2.1.bel⟩
end Go.Proofs.YtkfmadeeobalaaaDoor

namespace Go.Proofs.YtkfmadeeobalaaaDoor
open Go.RowKit
set_option linter.unusedVariables false
theorem allQ_mem {fs : List Fld} : ∀ {f : Nat} {p : List Int}, p ∈ allQ fs f → ∀ i, i < f → p.getD i 0 ∈ (fs.getD i fld0).2.1
  | 0, _, _, i, hi => by omega
  | f + 1, p, h, i, hi => by
    rw [allQ, List.mem_flatMap] at h
    obtain ⟨q, hq, h⟩ := h
    obtain ⟨c, hc, rfl⟩ := List.mem_map.1 h
    have hl := allQ_row fs f q hq
    by_cases e : i = f
    · subst e
      have e2 : (q ++ [c]).getD i 0 = c := by rw [List.getD_eq_getElem?_getD, List.getElem?_append_right (by omega), hl, Nat.sub_self]; rfl
      rw [e2]
      exact hc
    · have h1 := allQ_mem hq i (by omega)
      have e2 : (q ++ [c]).getD i 0 = q.getD i 0 := by rw [List.getD_eq_getElem?_getD, List.getElem?_append_left (by omega), ← List.getD_eq_getElem?_getD]
      rw [e2]
      exact h1
theorem any_congr2 {α : Type} {l : List α} {p q : α → Bool} (h : ∀ x ∈ l, p x = q x) : l.any p = l.any q := by
  induction l with
  | nil => rfl
  | cons x l ih => rw [List.any_cons, List.any_cons, h x (by simp), ih (fun y hy => h y (by simp [hy]))]
theorem pass_all {fs : List Fld} {es : List Edt} {n m : Nat} : (allR fs n).any (fun x => passB fs es x n m) = posB fs es n m (List.replicate m true) := by
  rw [pos_all]
  refine any_congr2 (fun x hx => ?_)
  rw [← allQ_all] at hx
  rw [passB, validB_true (allQ_mem hx)]
  rfl
/-- The records that fail an edit. -/
def recsR (fs : List Fld) (es : List Edt) (n m : Nat) : List (List Int) := (allR fs n).filter (fun r => !decide ((failL es r n m).length = 0))
theorem foldU_runs {es : List Edt} {n m : Nat} : ∀ (l : List (List Int)) (s : List (List Int)), foldU (runsV es n m) l s = (s ++ (l.filter (fun r => !decide ((failL es r n m).length = 0))).map (fun r => failL es r n m), false)
  | [], s => by simp [foldU]
  | x :: l, s => by
    rw [foldU]
    by_cases h : (failL es x n m).length = 0
    · rw [List.filter_cons_of_neg (by simp [h])]
      simp only [runsV, if_pos h]
      rw [if_neg (by simp)]
      exact foldU_runs l s
    · rw [List.filter_cons_of_pos (by simp [h])]
      simp only [runsV, if_neg h]
      rw [if_neg (by simp), foldU_runs l]
      simp
end Go.Proofs.YtkfmadeeobalaaaDoor

namespace Go.Proofs.YtkfmadeeobalaaaDoor
open Go.RowKit
set_option linter.unusedVariables false
/-- The runs, of the first k, that hold edit i. -/
def ofL (runs : List (List Int)) (k i : Nat) : List Int := ((List.range k).filter (fun r => decide ((i : Int) ∈ runs.getD r []))).map (fun r : Nat => (r : Int))
theorem ofL_zero (runs : List (List Int)) (i : Nat) : ofL runs 0 i = [] := rfl
theorem ofL_t {runs : List (List Int)} {k i : Nat} (h : (i : Int) ∈ runs.getD k []) : ofL runs (k + 1) i = ofL runs k i ++ [(k : Int)] := by
  have e : List.filter (fun r => decide ((i : Int) ∈ runs.getD r [])) [k] = [k] := by rw [List.filter_cons_of_pos (by exact decide_eq_true h)]; rfl
  unfold ofL; rw [List.range_succ, List.filter_append, List.map_append, e]; rfl
theorem ofL_f {runs : List (List Int)} {k i : Nat} (h : ¬ (i : Int) ∈ runs.getD k []) : ofL runs (k + 1) i = ofL runs k i := by
  have e : List.filter (fun r => decide ((i : Int) ∈ runs.getD r [])) [k] = [] := by rw [List.filter_cons_of_neg (by rw [decide_eq_true_iff]; exact h)]; rfl
  unfold ofL; rw [List.range_succ, List.filter_append, List.map_append, e]; simp
theorem ofL_len {runs : List (List Int)} {k i : Nat} : (ofL runs k i).length ≤ k := by
  unfold ofL; rw [List.length_map]; exact Nat.le_trans (List.length_filter_le _ _) (by simp)
/-- The state of needed's first loop: what it counts, and one list for each edit, all owned. -/
structure OfSt (B : Nat) (w0 : World) (φ : Phi) (ac : Option Addr) (cc : Nat) (cs : List Int) (ah : Option Addr) (ch : Nat) (hs : List Hdr) (m : Nat) (ofl : Nat → List Int) (w : World) : Prop where
  inv : Inv B w0 φ φ w
  oc : Own B φ w 3 ac cc cs
  oh : Own B φ w 32 ah ch hs
  row : ∀ e, e < m → Own B φ w 3 (hs.getD e hdr0).a (hs.getD e hdr0).c (ofl e) ∧ (hs.getD e hdr0).n = (ofl e).length
  nc : ∀ e x y, e < m → (hs.getD e hdr0).a = some x → ac = some y → x.block ≠ y.block
  nh : ∀ e x y, e < m → (hs.getD e hdr0).a = some x → ah = some y → x.block ≠ y.block
  nr : ∀ e f x y, e < m → f < m → e ≠ f → (hs.getD e hdr0).a = some x → (hs.getD f hdr0).a = some y → x.block ≠ y.block
  nn : ∀ x y, ac = some x → ah = some y → x.block ≠ y.block
  hl : hs.length = m
theorem OfSt.callB {B : Nat} {w0 w w' : World} {φ : Phi} {ac ah : Option Addr} {cc ch m : Nat} {cs : List Int} {hs : List Hdr} {ofl : Nat → List Int} (h : OfSt B w0 φ ac cc cs ah ch hs m ofl w) (hb : Below w.heap.size w w') : OfSt B w0 φ ac cc cs ah ch hs m ofl w' :=
  ⟨h.inv.callB hb, h.oc.callB hb, h.oh.callB hb, fun e he => ⟨(h.row e he).1.callB hb, (h.row e he).2⟩, h.nc, h.nh, h.nr, h.nn, h.hl⟩
theorem OfSt.start {B : Nat} {w0 w : World} {φ : Phi} {ac ah : Option Addr} {cc ch m : Nat} {cs : List Int} (hi : Inv B w0 φ φ w) (oc : Own B φ w 3 ac cc cs) (oh : Own B φ w 32 ah ch (List.replicate m hdr0)) (nn : ∀ x y, ac = some x → ah = some y → x.block ≠ y.block) : OfSt B w0 φ ac cc cs ah ch (List.replicate m hdr0) m (fun _ => []) w := by
  have hg : ∀ e, (List.replicate m hdr0).getD e hdr0 = hdr0 := fun e => by
    by_cases he : e < m
    · simp [List.getD_eq_getElem?_getD, he]
    · simp [List.getD_eq_getElem?_getD, he]
  refine ⟨hi, oc, oh, fun e he => ?_, fun e x y he h => ?_, fun e x y he h => ?_, fun e f x y he hf hne h => ?_, nn, by simp⟩
  · rw [hg]; exact ⟨Own.nil _ _ _ _, rfl⟩
  · rw [hg] at h; cases h
  · rw [hg] at h; cases h
  · rw [hg] at h; cases h
theorem getD_map0 {α β : Type} (f : α → β) (l : List α) (d : β) (d' : α) {k : Nat} (h : k < l.length) : (l.map f).getD k d = f (l.getD k d') := by
  rw [List.getD_eq_getElem?_getD, List.getElem?_map, List.getElem?_eq_getElem h, getD_elem0 _ _ _ h]; rfl
theorem ext_getD0 {α : Type} (d : α) {l l' : List α} (hl : l.length = l'.length) (h : ∀ k, k < l.length → l.getD k d = l'.getD k d) : l = l' := by
  apply List.ext_getElem hl
  intro k h1 h2
  rw [← getD_elem0 d _ _ h1, ← getD_elem0 d _ _ h2]; exact h k h1
theorem getD_range0 {n k : Nat} (h : k < n) : (List.range n).getD k 0 = k := by
  rw [getD_elem0 _ _ _ (by simpa using h), List.getElem_range]
/-- What needed counts: for each record that fails an edit, how many of those that are left. -/
def cntL (fs : List Fld) (es : List Edt) (n m i : Nat) : List Int := (recsR fs es n m).map (fun r => (cntK fs es n m i r : Int))
/-- Their runs. -/
def runsL (fs : List Fld) (es : List Edt) (n m : Nat) : List (List Int) := (recsR fs es n m).map (fun r => failL es r n m)
theorem mem_failL {es : List Edt} {r : List Int} {n k i : Nat} : (i : Int) ∈ failL es r n k ↔ i < k ∧ hitB (es.getD i edt0).2 r n = true := by
  unfold failL
  rw [List.mem_map]
  constructor
  · rintro ⟨j, hj, e⟩
    obtain rfl : j = i := by omega
    rw [List.mem_filter, List.mem_range] at hj
    exact hj
  · intro h
    exact ⟨i, by rw [List.mem_filter, List.mem_range]; exact h, rfl⟩
theorem failL_rng {es : List Edt} {r : List Int} {n k : Nat} : ∀ x ∈ failL es r n k, 0 ≤ x ∧ x < (k : Int) := by
  intro x hx
  unfold failL at hx
  obtain ⟨j, hj, rfl⟩ := List.mem_map.1 hx
  rw [List.mem_filter, List.mem_range] at hj
  omega
theorem nodup_ints (p : Nat → Bool) (k : Nat) : (((List.range k).filter p).map (fun j : Nat => (j : Int))).Nodup := by
  have h : ((List.range k).filter p).Nodup := List.Pairwise.filter p List.nodup_range
  unfold List.Nodup at h ⊢
  rw [List.pairwise_map]
  exact h.imp (fun h e => h (by omega))
theorem failL_nodup (es : List Edt) (r : List Int) (n k : Nat) : (failL es r n k).Nodup := nodup_ints _ _
theorem ofL_nodup (runs : List (List Int)) (k i : Nat) : (ofL runs k i).Nodup := nodup_ints _ _
theorem mem_ofL {runs : List (List Int)} {k i r : Nat} : (r : Int) ∈ ofL runs k i ↔ r < k ∧ (i : Int) ∈ runs.getD r [] := by
  unfold ofL
  rw [List.mem_map]
  constructor
  · rintro ⟨j, hj, e⟩
    obtain rfl : j = r := by omega
    rw [List.mem_filter, List.mem_range, decide_eq_true_iff] at hj
    exact hj
  · intro h
    exact ⟨r, by rw [List.mem_filter, List.mem_range, decide_eq_true_iff]; exact h, rfl⟩
theorem ofL_rng {runs : List (List Int)} {k i : Nat} : ∀ x ∈ ofL runs k i, 0 ≤ x ∧ x < (k : Int) := by
  intro x hx
  unfold ofL at hx
  obtain ⟨j, hj, rfl⟩ := List.mem_map.1 hx
  rw [List.mem_filter, List.mem_range] at hj
  omega
theorem cntL_zero (fs : List Fld) (es : List Edt) (n m : Nat) : cntL fs es n m 0 = (runsL fs es n m).map (fun l => (l.length : Int)) := by
  unfold cntL runsL
  rw [List.map_map]
  refine List.map_congr_left (fun r _ => ?_)
  rw [cntK_zero]; rfl
theorem cntL_len (fs : List Fld) (es : List Edt) (n m i : Nat) : (cntL fs es n m i).length = (runsL fs es n m).length := by unfold cntL runsL; simp
theorem runsL_at {fs : List Fld} {es : List Edt} {n m k : Nat} (h : k < (runsL fs es n m).length) : (runsL fs es n m).getD k [] = failL es ((recsR fs es n m).getD k []) n m := by
  have h2 : k < (recsR fs es n m).length := by unfold runsL at h; simpa using h
  unfold runsL; rw [getD_map0 _ _ _ [] h2]
theorem cntL_at {fs : List Fld} {es : List Edt} {n m k i : Nat} (h : k < (runsL fs es n m).length) : (cntL fs es n m i).getD k 0 = (cntK fs es n m i ((recsR fs es n m).getD k []) : Int) := by
  have h2 : k < (recsR fs es n m).length := by unfold runsL at h; simpa using h
  unfold cntL; rw [getD_map0 _ _ _ [] h2]
theorem recsR_mem {fs : List Fld} {es : List Edt} {n m : Nat} {r : List Int} (h : r ∈ recsR fs es n m) : r ∈ allR fs n := by unfold recsR at h; exact (List.mem_filter.1 h).1
theorem recsR_hit {fs : List Fld} {es : List Edt} {n m i : Nat} (hi : i < m) {r : List Int} (h : r ∈ allR fs n) (hh : hitB (es.getD i edt0).2 r n = true) : r ∈ recsR fs es n m := by
  unfold recsR
  rw [List.mem_filter]
  refine ⟨h, ?_⟩
  have hm : (i : Int) ∈ failL es r n m := mem_failL.2 ⟨hi, hh⟩
  have := List.length_pos_of_mem hm
  simp; intro e; rw [e] at hm; simp at hm
/-- An edit is needed just if one of its runs counts 1. -/
theorem need_ofL {fs : List Fld} {es : List Edt} {n m i : Nat} (hi : i < m) : (ofL (runsL fs es n m) (runsL fs es n m).length i).any (fun k => decide ((cntL fs es n m i).getD k.toNat 0 = 1)) = needB fs es n m (leftK fs es n m i) i := by
  rw [Bool.eq_iff_iff, need_iff hi, List.any_eq_true]
  constructor
  · rintro ⟨x, hx, h⟩
    obtain ⟨k, rfl⟩ : ∃ k : Nat, x = k := ⟨x.toNat, by have := ofL_rng x hx; omega⟩
    obtain ⟨hk, hm⟩ := mem_ofL.1 hx
    have h2 : k < (recsR fs es n m).length := by unfold runsL at hk; simpa using hk
    rw [runsL_at hk] at hm
    rw [decide_eq_true_iff, show ((k : Int)).toNat = k by omega, cntL_at hk] at h
    have hr : (recsR fs es n m).getD k [] ∈ recsR fs es n m := by rw [getD_elem0 _ _ _ h2]; exact List.getElem_mem _
    exact ⟨_, recsR_mem hr, (mem_failL.1 hm).2, by omega⟩
  · rintro ⟨r, hr, hh, h⟩
    obtain ⟨k, hk, e⟩ := List.getElem_of_mem (recsR_hit hi hr hh)
    have hk2 : k < (runsL fs es n m).length := by unfold runsL; simpa using hk
    have e2 : (recsR fs es n m).getD k [] = r := by rw [getD_elem0 _ _ _ hk]; exact e
    refine ⟨(k : Int), mem_ofL.2 ⟨hk2, ?_⟩, ?_⟩
    · rw [runsL_at hk2, e2]; exact mem_failL.2 ⟨hi, hh⟩
    · rw [decide_eq_true_iff, show ((k : Int)).toNat = k by omega, cntL_at hk2, e2]; omega
/-- Those of a list lowered by one. -/
def decF (l : List Int) (cs : List Int) : List Int := l.foldl (fun cs k => cs.set k.toNat (cs.getD k.toNat 0 - 1)) cs
theorem decF_snoc (l : List Int) (x : Int) (cs : List Int) : decF (l ++ [x]) cs = (decF l cs).set x.toNat ((decF l cs).getD x.toNat 0 - 1) := by unfold decF; rw [List.foldl_append]; rfl
theorem decF_len : ∀ (l cs : List Int), (decF l cs).length = cs.length
  | [], cs => rfl
  | x :: l, cs => by
    show (decF l _).length = _
    rw [decF_len l]; simp
theorem getD_set_ite (cs : List Int) (k : Nat) (hk : k < cs.length) (y : Int) (r : Nat) : (cs.set k y).getD r 0 = if r = k then y else cs.getD r 0 := by
  rw [List.getD_eq_getElem?_getD, List.getElem?_set, List.getD_eq_getElem?_getD]
  by_cases e : k = r
  · subst e; simp [hk]
  · rw [if_neg e, if_neg (fun q => e q.symm)]
theorem decF_at : ∀ (l : List Int) (cs : List Int), l.Nodup → (∀ x ∈ l, 0 ≤ x ∧ x < (cs.length : Int)) → ∀ r : Nat, (decF l cs).getD r 0 = cs.getD r 0 - (if (r : Int) ∈ l then 1 else 0)
  | [], cs, _, _, r => by simp [decF]
  | x :: l, cs, hn, hr, r => by
    rw [List.nodup_cons] at hn
    have h0 := hr x (by simp)
    show (decF l _).getD r 0 = _
    rw [decF_at l _ hn.2 (fun y hy => by rw [List.length_set]; exact hr y (by simp [hy])) r, getD_set_ite cs _ (by omega)]
    by_cases e : r = x.toNat
    · have e2 : (r : Int) = x := by omega
      rw [if_pos e, if_neg (by rw [e2]; exact hn.1), if_pos (by rw [e2]; simp), ← e]; omega
    · have e2 : ¬ (r : Int) = x := by omega
      rw [if_neg e]
      by_cases e3 : (r : Int) ∈ l
      · rw [if_pos e3, if_pos (by simp [e3])]
      · rw [if_neg e3, if_neg (by simp [e2, e3])]
/-- Where an edit is not needed, its runs are lowered. -/
theorem decF_cnt {fs : List Fld} {es : List Edt} {n m i : Nat} (hi : i < m) (hnd : needB fs es n m (leftK fs es n m i) i = false) : decF (ofL (runsL fs es n m) (runsL fs es n m).length i) (cntL fs es n m i) = cntL fs es n m (i + 1) := by
  apply ext_getD0 0
  · rw [decF_len, cntL_len, cntL_len]
  intro k h1
  have hk : k < (runsL fs es n m).length := by rw [decF_len, cntL_len] at h1; exact h1
  rw [decF_at _ _ (ofL_nodup _ _ _) (fun x hx => by rw [cntL_len]; exact ofL_rng x hx), cntL_at hk, cntL_at hk]
  have h := cntK_next (n := n) hi hnd ((recsR fs es n m).getD k [])
  have hm : ((k : Int) ∈ ofL (runsL fs es n m) (runsL fs es n m).length i) ↔ hitB (es.getD i edt0).2 ((recsR fs es n m).getD k []) n = true := by
    rw [mem_ofL, runsL_at hk, mem_failL]
    exact ⟨fun h => h.2.2, fun h => ⟨hk, hi, h⟩⟩
  by_cases hh : hitB (es.getD i edt0).2 ((recsR fs es n m).getD k []) n = true
  · rw [if_pos (hm.2 hh)]; rw [if_pos hh] at h; omega
  · rw [if_neg (fun q => hh (hm.1 q))]; rw [if_neg hh] at h; omega
theorem cntK_le {fs : List Fld} {es : List Edt} {n m i : Nat} {r : List Int} : cntK fs es n m i r ≤ m := by
  unfold cntK; exact Nat.le_trans (List.length_filter_le _ _) (by simp)
theorem dec_rng {fs : List Fld} {es : List Edt} {n m i e : Nat} (j q : Nat) : -1 ≤ (decF ((ofL (runsL fs es n m) (runsL fs es n m).length e).take j) (cntL fs es n m i)).getD q 0 ∧ (decF ((ofL (runsL fs es n m) (runsL fs es n m).length e).take j) (cntL fs es n m i)).getD q 0 ≤ (m : Int) := by
  rw [decF_at _ _ ((ofL_nodup _ _ _).sublist (List.take_sublist _ _)) (fun x hx => by rw [cntL_len]; exact ofL_rng x (List.mem_of_mem_take hx))]
  have h : 0 ≤ (cntL fs es n m i).getD q 0 ∧ (cntL fs es n m i).getD q 0 ≤ (m : Int) := by
    by_cases hq : q < (runsL fs es n m).length
    · rw [cntL_at hq]
      have := cntK_le (fs := fs) (es := es) (n := n) (m := m) (i := i) (r := (recsR fs es n m).getD q [])
      omega
    · rw [List.getD_eq_getElem?_getD, List.getElem?_eq_none (by rw [cntL_len]; omega)]
      simp
  split <;> omega
theorem cntL_keep {fs : List Fld} {es : List Edt} {n m i : Nat} (hnd : needB fs es n m (leftK fs es n m i) i = true) : cntL fs es n m (i + 1) = cntL fs es n m i := by
  unfold cntL
  refine List.map_congr_left (fun r _ => ?_)
  unfold cntK; rw [leftK_keep hnd]
/-- Counts behind the first k runs. -/
def lensK (runs : List (List Int)) (k : Nat) : List Int := (List.range runs.length).map (fun r => if r < k then ((runs.getD r []).length : Int) else 0)
theorem lensK_len (runs : List (List Int)) (k : Nat) : (lensK runs k).length = runs.length := by unfold lensK; simp
theorem lensK_at {runs : List (List Int)} {k r : Nat} (hr : r < runs.length) : (lensK runs k).getD r 0 = if r < k then ((runs.getD r []).length : Int) else 0 := by
  unfold lensK; rw [getD_map0 _ _ _ 0 (by simpa using hr), getD_range0 hr]
theorem lensK_zero (runs : List (List Int)) : lensK runs 0 = List.replicate runs.length 0 := by
  apply ext_getD0 0
  · rw [lensK_len]; simp
  · intro i h1
    rw [lensK_len] at h1
    rw [lensK_at h1, if_neg (by omega)]
    simp [List.getD_eq_getElem?_getD, h1]
theorem lensK_step {runs : List (List Int)} {k : Nat} (hk : k < runs.length) : (lensK runs k).set k ((runs.getD k []).length : Int) = lensK runs (k + 1) := by
  apply ext_getD0 0
  · rw [List.length_set, lensK_len, lensK_len]
  · intro i h1
    rw [List.length_set, lensK_len] at h1
    rw [getD_set_ite _ _ (by rw [lensK_len]; exact hk), lensK_at h1, lensK_at h1]
    by_cases e : i = k
    · subst e; rw [if_pos rfl, if_pos (by omega)]
    · rw [if_neg e]
      by_cases h : i < k
      · rw [if_pos h, if_pos (by omega)]
      · rw [if_neg h, if_neg (by omega)]
theorem lensK_all (fs : List Fld) (es : List Edt) (n m : Nat) : lensK (runsL fs es n m) (runsL fs es n m).length = cntL fs es n m 0 := by
  rw [cntL_zero]
  apply ext_getD0 0
  · rw [lensK_len]; simp
  · intro i h1
    rw [lensK_len] at h1
    rw [lensK_at h1, if_pos h1, getD_map0 _ _ _ [] h1]
/-- The lists of runs in the midst of run k: its first j edits are in. -/
def ofJ (runs : List (List Int)) (k j e : Nat) : List Int := ofL runs k e ++ (if (e : Int) ∈ (runs.getD k []).take j then [(k : Int)] else [])
theorem ofJ_zero (runs : List (List Int)) (k e : Nat) : ofJ runs k 0 e = ofL runs k e := by unfold ofJ; simp
theorem ofJ_all (runs : List (List Int)) (k e : Nat) {j : Nat} (hj : (runs.getD k []).length = j) : ofJ runs k j e = ofL runs (k + 1) e := by
  unfold ofJ
  rw [← hj, List.take_length]
  by_cases h : (e : Int) ∈ runs.getD k []
  · rw [if_pos h, ofL_t h]
  · rw [if_neg h, ofL_f h, List.append_nil]
theorem ofJ_step {runs : List (List Int)} {k j i nl : Nat} (hn : (runs.getD k []).Nodup) (hl : (runs.getD k []).length = nl) (hj : j < nl) (hi : (runs.getD k []).getD j 0 = (i : Int)) (e : Nat) : ofJ runs k (j + 1) e = if e = i then ofJ runs k j i ++ [(k : Int)] else ofJ runs k j e := by
  generalize hr : runs.getD k [] = l at *
  unfold ofJ
  rw [hr, take_snocD 0 l j nl hl hj, hi]
  have hni : ¬ (i : Int) ∈ l.take j := by
    intro hm
    obtain ⟨q, hq, e2⟩ := List.getElem_of_mem hm
    rw [List.getElem_take] at e2
    have hjl : j < l.length := by omega
    rw [getD_elem0 _ _ _ hjl] at hi
    have hqj : q < j := by rw [List.length_take] at hq; omega
    exact (List.pairwise_iff_getElem.1 hn) q j (by omega) hjl hqj (e2.trans hi.symm)
  by_cases he : e = i
  · subst he
    rw [if_pos rfl, if_pos (by simp), if_neg hni, List.append_nil]
  · rw [if_neg he]
    have e2 : ¬ (e : Int) = i := by omega
    by_cases e3 : (e : Int) ∈ l.take j
    · rw [if_pos e3, if_pos (by simp [e3])]
    · rw [if_neg e3, if_neg (by simp [e2, e3])]
theorem ofJ_len {runs : List (List Int)} {k j e : Nat} : (ofJ runs k j e).length ≤ k + 1 := by
  unfold ofJ
  have := ofL_len (runs := runs) (k := k) (i := e)
  rw [List.length_append]
  split <;> simp <;> omega
section
variable {B : Nat} {w0 w w' : World} {φ : Phi} {ac ah : Option Addr} {cc ch m : Nat} {cs : List Int} {hs : List Hdr} {ofl ofl' : Nat → List Int}
theorem OfSt.congr (h : OfSt B w0 φ ac cc cs ah ch hs m ofl w) (he : ∀ e, e < m → ofl' e = ofl e) : OfSt B w0 φ ac cc cs ah ch hs m ofl' w :=
  ⟨h.inv, h.oc, h.oh, fun e hm => by rw [he e hm]; exact h.row e hm, h.nc, h.nh, h.nr, h.nn, h.hl⟩
/-- A store into the counts. -/
theorem OfSt.setc {g off : Nat} {cs' : List Int} (h : OfSt B w0 φ (some ⟨g, 0, none⟩) cc cs ah ch hs m ofl w) (u : Value) (hi : Inv B w0 φ φ (w.setCell ⟨g, off, none⟩ u)) (ho : Own B φ (w.setCell ⟨g, off, none⟩ u) 3 (some ⟨g, 0, none⟩) cc cs') : OfSt B w0 φ (some ⟨g, 0, none⟩) cc cs' ah ch hs m ofl (w.setCell ⟨g, off, none⟩ u) :=
  ⟨hi, ho, h.oh.other (grown_set w g off u) (fun x hx e => h.nn _ x rfl hx (Option.some.inj e).symm), fun e he => ⟨(h.row e he).1.other (grown_set w g off u) (fun x hx q => h.nc e x _ he hx rfl (Option.some.inj q)), (h.row e he).2⟩, h.nc, h.nh, h.nr, h.nn, h.hl⟩
/-- The outer row behind an append to row e. -/
theorem OfSt.ohw {e gh : Nat} {o : Obj} (h : OfSt B w0 φ ac cc cs (some ⟨gh, 0, none⟩) ch hs m ofl w) (he : e < m) (hg : (w.alloc o).grownBy w' ((hs.getD e hdr0).a.map (·.block))) : Own B φ w' 32 (some ⟨gh, 0, none⟩) ch hs :=
  (h.oh.alloc o).other hg (fun y hy q => by
    cases hq : (hs.getD e hdr0).a with
    | none => rw [hq] at q; cases q
    | some z => rw [hq] at q; exact h.nh e z y he hq hy (by simpa using q.symm))
/-- Behind an append to row e, the longer slice laid into its header. -/
theorem OfSt.put {e gh : Nat} {o : Obj} {a' : Option Addr} {c' n' : Nat} {l' : List Int} (h : OfSt B w0 φ ac cc cs (some ⟨gh, 0, none⟩) ch hs m ofl w) (he : e < m)
    (hi : Inv B w0 φ φ w') (ho : Own B φ w' 3 a' c' l') (hn : n' = l'.length) (hg : (w.alloc o).grownBy w' ((hs.getD e hdr0).a.map (·.block))) (hf : ∀ x, a' = some x → (hs.getD e hdr0).a.map (·.block) = some x.block ∨ (w.alloc o).heap.size ≤ x.block) :
    OfSt B w0 φ ac cc cs (some ⟨gh, 0, none⟩) ch (hs.set e ⟨a', n', c'⟩) m (fun f => if f = e then l' else ofl f) (w'.setCell ⟨gh, e, none⟩ (.slice a' n' c')) := by
  have hsa : (w.alloc o).heap.size = w.heap.size + 1 := alloc_size _ _
  have far : ∀ x y : Addr, a' = some x → y.block < w.heap.size → (∀ z, (hs.getD e hdr0).a = some z → z.block ≠ y.block) → x.block ≠ y.block := fun x y hx hy hz => by
    rcases hf x hx with q | q
    · cases hq : (hs.getD e hdr0).a with
      | none => rw [hq] at q; cases q
      | some z => rw [hq] at q; have := hz z hq; have e2 : z.block = x.block := by simpa using q
                  omega
    · omega
  have old : ∀ y : Addr, (∀ z, (hs.getD e hdr0).a = some z → z.block ≠ y.block) → some y.block ≠ (hs.getD e hdr0).a.map (·.block) := fun y hz q => by
    cases hq : (hs.getD e hdr0).a with
    | none => rw [hq] at q; cases q
    | some z => rw [hq] at q; exact hz z hq (by simpa using q.symm)
  have oh1 : Own B φ w' 32 (some ⟨gh, 0, none⟩) ch hs := (h.oh.alloc o).other hg (fun y hy => old y (fun z hz => h.nh e z y he hz hy))
  have hlt := h.oh.lt _ rfl
  have hd := oh1.hdrD (Lib.hid h.hl) he
  obtain ⟨g2, hg2, _, _, hφ, _, _, hset⟩ := hd
  cases hg2
  obtain ⟨oh2, hi2⟩ := hset ⟨a', n', c'⟩ w0 φ hi
  have hgr := grown_set w' gh e (.slice a' n' c')
  have hgd : ∀ f, f < m → (hs.set e ⟨a', n', c'⟩).getD f hdr0 = if f = e then ⟨a', n', c'⟩ else hs.getD f hdr0 := fun f hm => by
    rw [List.getD_eq_getElem?_getD, List.getElem?_set, List.getD_eq_getElem?_getD]
    by_cases q : e = f
    · subst q; simp [h.hl, he]
    · rw [if_neg q, if_neg (fun p => q p.symm)]
  refine ⟨hi2, ?_, oh2, fun f hm => ?_, fun f x y hm hx hy => ?_, fun f x y hm hx hy => ?_, fun f1 f2 x y h1 h2 hne hx hy => ?_, h.nn, by rw [List.length_set]; exact h.hl⟩
  · exact ((h.oc.alloc o).other hg (fun y hy => old y (fun z hz => h.nc e z y he hz hy))).other hgr (fun y hy q => h.nn y _ hy rfl (Option.some.inj q))
  · rw [hgd f hm]
    by_cases q : f = e
    · subst q
      rw [if_pos rfl, if_pos rfl]
      exact ⟨ho.other hgr (fun y hy q => far y _ hy hlt.2 (fun z hz => h.nh f z _ hm hz rfl) (Option.some.inj q)), hn⟩
    · rw [if_neg q, if_neg q]
      exact ⟨(((h.row f hm).1.alloc o).other hg (fun y hy => old y (fun z hz => h.nr e f z y he hm (fun p => q p.symm) hz hy))).other hgr (fun y hy q => h.nh f y _ hm hy rfl (Option.some.inj q)), (h.row f hm).2⟩
  · rw [hgd f hm] at hx
    by_cases q : f = e
    · rw [if_pos q] at hx
      exact far x y hx (h.oc.lt y hy).2 (fun z hz => h.nc e z y he hz hy)
    · rw [if_neg q] at hx
      exact h.nc f x y hm hx hy
  · rw [hgd f hm] at hx
    by_cases q : f = e
    · rw [if_pos q] at hx
      exact far x y hx (h.oh.lt y hy).2 (fun z hz => h.nh e z y he hz hy)
    · rw [if_neg q] at hx
      exact h.nh f x y hm hx hy
  · rw [hgd f1 h1] at hx
    rw [hgd f2 h2] at hy
    by_cases q1 : f1 = e
    · rw [if_pos q1] at hx
      rw [if_neg (fun q2 => hne (q1.trans q2.symm))] at hy
      exact far x y hx ((h.row f2 h2).1.lt y hy).2 (fun z hz => h.nr e f2 z y he h2 (fun p => hne (q1.trans p)) hz hy)
    · rw [if_neg q1] at hx
      by_cases q2 : f2 = e
      · rw [if_pos q2] at hy
        exact fun p => far y x hy ((h.row f1 h1).1.lt x hx).2 (fun z hz => h.nr e f1 z x he h1 (fun p => q1 p.symm) hz hx) p.symm
      · rw [if_neg q2] at hy
        exact h.nr f1 f2 x y h1 h2 hne hx hy
theorem Own.toPhi {α : Type} [Rep α] {φ' : Phi} {E : TypeId} {a : Option Addr} {c : Nat} {xs : List α} (h : Own B φ w E a c xs) (hl : φ.le φ') (hf : ∀ x, a = some x → φ' x.block = φ x.block) : Own B φ' w E a c xs := by
  obtain ⟨⟨cells, hr, hll⟩, hfr⟩ := h
  exact ⟨⟨cells, hr, hll.mono hl⟩, fun y hy => (hf y hy).trans (hfr y hy)⟩
theorem HdrL.of {α : Type} [Rep α] : ∀ {hs : List Hdr} {gs : List (List α)}, hs.length = gs.length → (∀ k (h1 : k < hs.length) (h2 : k < gs.length), SlV φ hs[k].a hs[k].c gs[k] ∧ hs[k].n = gs[k].length) → HdrL φ hs gs
  | [], [], _, _ => trivial
  | x :: hs, g :: gs, hl, h => ⟨h 0 (by simp) (by simp), HdrL.of (by simpa using hl) (fun k h1 h2 => h (k + 1) (by simpa using h1) (by simpa using h2))⟩
  | [], _ :: _, hl, _ => by simp at hl
  | _ :: _, [], hl, _ => by simp at hl
/-- All rows and the outer row frozen; the counts stay. -/
theorem OfSt.rel (h : OfSt B w0 φ ac cc cs ah ch hs m ofl w) : ∃ φ', φ.le φ' ∧ Inv B w0 φ φ' w ∧ Own B φ' w 3 ac cc cs ∧ SlV φ' ah ch ((List.range m).map ofl) := by
  have rows : ∀ k, k ≤ m → ∃ φ', φ.le φ' ∧ Inv B w0 φ φ' w ∧ (∀ e, e < k → SlV φ' (hs.getD e hdr0).a (hs.getD e hdr0).c (ofl e)) ∧ (∀ b, (∀ e x, e < k → (hs.getD e hdr0).a = some x → x.block ≠ b) → φ' b = φ b) := by
    intro k
    induction k with
    | zero => exact fun _ => ⟨φ, φ.le_refl, h.inv, fun e he => by omega, fun _ _ => rfl⟩
    | succ k ih =>
      intro hk
      obtain ⟨φ1, l1, i1, s1, f1⟩ := ih (by omega)
      have o1 : Own B φ1 w 3 (hs.getD k hdr0).a (hs.getD k hdr0).c (ofl k) := (h.row k (by omega)).1.toPhi l1 (fun x hx => f1 _ (fun e y he hy q => h.nr e k y x (by omega) (by omega) (by omega) hy hx q))
      obtain ⟨φ2, l2, i2, s2, f2⟩ := o1.release i1
      refine ⟨φ2, l1.trans l2, i2, fun e he => ?_, fun b hb => ?_⟩
      · by_cases q : e = k
        · subst q; exact s2
        · exact (s1 e (by omega)).mono l2
      · refine (f2 b (fun q => ?_)).trans (f1 b (fun e x he hx => hb e x (by omega) hx))
        cases hq : (hs.getD k hdr0).a with
        | none => rw [hq] at q; cases q
        | some z => rw [hq] at q; exact hb k z (by omega) hq (by simpa using q.symm)
  obtain ⟨φ1, l1, i1, s1, f1⟩ := rows m (Nat.le_refl _)
  have oh1 := h.oh.toPhi l1 (fun x hx => f1 _ (fun e y he hy q => h.nh e y x he hy hx q))
  have oc1 := h.oc.toPhi l1 (fun x hx => f1 _ (fun e y he hy q => h.nc e y x he hy hx q))
  obtain ⟨φ2, l2, i2, s2, f2⟩ := oh1.release i1
  refine ⟨φ2, l1.trans l2, i2, oc1.toPhi l2 (fun x hx => f2 _ (fun q => ?_)), ?_⟩
  · cases hq : ah with
    | none => rw [hq] at q; cases q
    | some z => rw [hq] at q; exact h.nn x z hx hq (by simpa using q)
  · refine s2.ofHdr (HdrL.of (by rw [h.hl]; simp) (fun k h1 h2 => ?_))
    have hk : k < m := by rw [← h.hl]; exact h1
    rw [← getD_elem0 hdr0 _ _ h1]
    simp only [List.getElem_map, List.getElem_range]
    exact ⟨(s1 k hk).mono l2, (h.row k hk).2⟩
end
end Go.Proofs.YtkfmadeeobalaaaDoor
