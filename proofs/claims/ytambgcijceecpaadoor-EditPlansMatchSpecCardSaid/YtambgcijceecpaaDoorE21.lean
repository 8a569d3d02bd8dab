/- Slices of slices in a captured cell, next to a row that is written; the walk of needed's first closure. Conditions: none beyond what the claim form gives. -/
import Derived.Test.YtambgcijceecpaaDoorQC
import Derived.Test.YtambgcijceecpaaDoorE20
namespace Go.Proofs.YtambgcijceecpaaDoor
open Go.RowKit
set_option linter.unusedVariables false
/-- A captured cell (block bo) holds a slice of slices that the call owns and that reads as s; row g may be written. -/
structure HoldL (B : Nat) (w0 : World) (φ : Phi) (g bo : Nat) (T : TypeId) (s : List (List Int)) (w : World) : Prop where
  inv : Inv B w0 φ φ w
  ex : ∃ φ3 a cap, Inv B w0 φ φ3 w ∧ (∀ b, b ≤ g → φ b = none → φ3 b = none) ∧ Own B φ3 w 26 a cap s ∧ (∀ x, a = some x → g < x.block) ∧ Blk w bo #[.slice a s.length cap] T
  fg : φ g = none
  fo : φ bo = none
  lo : B ≤ bo
  lt : bo < g
  gw : g < w.heap.size
section
variable {B : Nat} {w0 w w' : World} {φ : Phi} {g bo : Nat} {T : TypeId} {s : List (List Int)}
theorem HoldL.callB (h : HoldL B w0 φ g bo T s w) (hb : Below w.heap.size w w') : HoldL B w0 φ g bo T s w' := by
  obtain ⟨φ3, a, cap, h1, h2, h3, h4, h5⟩ := h.ex
  exact ⟨h.inv.callB hb, ⟨φ3, a, cap, h1.callB hb, h2, h3.callB hb, h4, h5.callB hb⟩, h.fg, h.fo, h.lo, h.lt, Nat.lt_of_lt_of_le h.gw hb.size⟩
theorem HoldL.row (h : HoldL B w0 φ g bo T s w) (k : Nat) (v : Value) : HoldL B w0 φ g bo T s (w.setCell ⟨g, k, none⟩ v) := by
  obtain ⟨φ3, a, cap, h1, h2, h3, h4, h5⟩ := h.ex
  have hB : B ≤ g := by have := h.lo; have := h.lt; omega
  have hlt := h.lt
  exact ⟨h.inv.setCell hB h.fg v, ⟨φ3, a, cap, h1.setCell hB (h2 g (Nat.le_refl _) h.fg) v, h2, h3.other (grown_set w g k v) (fun x hx e => by have := h4 x hx; have e2 := Option.some.inj e; omega), h4, h5.other (by show g ≠ bo; omega) v⟩, h.fg, h.fo, h.lo, h.lt, by have := h.gw; simpa [World.setCell] using this⟩
theorem HoldL.start (hi : Inv B w0 φ φ w) (h5 : Blk w bo #[.slice none 0 0] T) (fg : φ g = none) (fo : φ bo = none) (lo : B ≤ bo) (lt : bo < g) (gw : g < w.heap.size) : HoldL B w0 φ g bo T [] w :=
  ⟨hi, ⟨φ, none, 0, hi, fun _ _ h => h, Own.nil _ _ _ _, (fun _ h => by cases h), h5⟩, fg, fo, lo, lt, gw⟩
/-- A slice of ints comes back: what the append of it asks. -/
theorem HoldL.open_ (h : HoldL B w0 φ g bo T s w) (hb : Below w.heap.size w w') {ψ : Phi} {al : Option Addr} {cl : Nat} {l : List Int} (ho : Own w.heap.size ψ w' 3 al cl l) :
    ∃ φ4 a cap, Inv B w0 φ φ4 w' ∧ (∀ b, b ≤ g → φ b = none → φ4 b = none) ∧ Own B φ4 w' 26 a cap s ∧ (∀ x, a = some x → g < x.block) ∧ Blk w' bo #[.slice a s.length cap] T ∧ SlV φ4 al cl l := by
  obtain ⟨φ3, a, cap, h1, h2, h3, h4, h5⟩ := h.ex
  have hgw := h.gw
  have hl := (ho.ints (ψ := φ3) (fun x hx => h1.fz.new_none (ho.lt x hx).1)).base h.inv.size
  obtain ⟨φ4, l4, i4, s4, f4⟩ := hl.release (h1.callB hb)
  have hne : ∀ b, b < w.heap.size → φ4 b = φ3 b := fun b hbw => f4 b (fun e => by
    cases al with
    | none => cases e
    | some x => have h1 := (ho.lt x rfl).1; have e2 : b = x.block := by simpa using e
                omega)
  obtain ⟨⟨cells, hr, hll⟩, hfr⟩ := h3.callB hb
  refine ⟨φ4, a, cap, i4, fun b hbg hφ => (hne b (by omega)).trans (h2 b hbg hφ), ⟨⟨cells, hr, hll.mono l4⟩, fun y hy => (hne _ (h3.lt y hy).2).trans (hfr y hy)⟩, h4, h5.callB hb, s4⟩
theorem HoldL.cell2 {w1 w2 : World} {a : Option Addr} {cs : Array Value} {o : Obj} (h : HoldL B w0 φ g bo T s w) (hb : Below w.heap.size w w1) (hf : ∀ x, a = some x → g < x.block) (hk : Blk w1 bo cs T) (hg : (w1.alloc o).grownBy w2 (a.map (·.block))) : Blk w2 bo cs T := by
  have hgw := h.gw
  have hlt := h.lt
  have hsz := hb.size
  have hsa : (w1.alloc o).heap.size = w1.heap.size + 1 := alloc_size _ _
  exact (hg.block bo (by omega) (fun e => by
    cases a with
    | none => cases e
    | some z => have := hf z rfl; have e2 : bo = z.block := by simpa using e
                omega)).trans (hk.alloc o)
/-- The longer slice is laid into the cell. -/
theorem HoldL.put {w1 w2 : World} {φ4 : Phi} {a a' : Option Addr} {cap cap' : Nat} {s' : List (List Int)} {o : Obj} (h : HoldL B w0 φ g bo T s w) (hb : Below w.heap.size w w1) (hn : ∀ b, b ≤ g → φ b = none → φ4 b = none) (hf : ∀ x, a = some x → g < x.block) (hk : Blk w1 bo #[.slice a s.length cap] T)
    (hi : Inv B w0 φ φ4 w2) (ho : Own B φ4 w2 26 a' cap' s') (hg : (w1.alloc o).grownBy w2 (a.map (·.block))) (hfr : ∀ x, a' = some x → a.map (·.block) = some x.block ∨ (w1.alloc o).heap.size ≤ x.block) : HoldL B w0 φ g bo T s' (w2.setCell ⟨bo, 0, none⟩ (.slice a' s'.length cap')) := by
  have hgw := h.gw
  have hlt := h.lt
  have hlo := h.lo
  have hsz := hb.size
  have hsa : (w1.alloc o).heap.size = w1.heap.size + 1 := alloc_size _ _
  have hgs := hg.size
  have hf' : ∀ x, a' = some x → g < x.block := fun x hx => by
    rcases hfr x hx with e | e
    · cases a with
      | none => cases e
      | some z => have := hf z rfl; have e2 : z.block = x.block := by simpa using e
                  omega
    · omega
  have k2 : Blk w2 bo #[.slice a s.length cap] T := (hg.block bo (by omega) (fun e => by
    cases a with
    | none => cases e
    | some z => have := hf z rfl; have e2 : bo = z.block := by simpa using e
                omega)).trans (hk.alloc o)
  have i0 : Inv B w0 φ φ w2 := ⟨hi.bel, hi.base, hi.fz.sub hi.le, φ.le_refl, fun _ _ => rfl⟩
  refine ⟨i0.setCell hlo h.fo _, ⟨φ4, a', cap', hi.setCell hlo (hn bo (by omega) h.fo) _, hn, ho.other (grown_set w2 bo 0 _) (fun x hx e => by have := hf' x hx; have e2 := Option.some.inj e; omega), hf', k2.set 0 _⟩, h.fg, h.fo, h.lo, h.lt, ?_⟩
  have e : (w2.setCell ⟨bo, 0, none⟩ (.slice a' s'.length cap')).heap.size = w2.heap.size := by simp [World.setCell]
  omega
/-- What the cell holds in the end. -/
theorem HoldL.out (h : HoldL B w0 φ g bo T s w) : ∃ φ3 a cap, φ.le φ3 ∧ Inv B w0 φ φ3 w ∧ SlV φ3 a cap s ∧ Blk w bo #[.slice a s.length cap] T := by
  obtain ⟨φ3, a, cap, h1, h2, h3, h4, h5⟩ := h.ex
  obtain ⟨φ4, l4, i4, s4, _⟩ := h3.release h1
  exact ⟨φ4, a, cap, i4.le, i4, s4, h5⟩
end
/-- The lists of failed edits, of the records that fail one. -/
def runsV (es : List Edt) (n m : Nat) (x : List Int) (s : List (List Int)) : List (List Int) × Bool := (if (failL es x n m).length = 0 then s else s ++ [failL es x n m], false)
/-- The state of needed's first closure. -/
structure NeJ (B : Nat) (w0 : World) (φ : Phi) (br g b1 b2 : Nat) (s : List (List Int)) (w : World) : Prop where
  h : HoldL B w0 φ g b2 40 s w
  k : Blk w b1 #[.pointer (some ⟨br, 0, none⟩)] 54
  lt : b1 < b2
theorem NeJ.row {B : Nat} {w0 w : World} {φ : Phi} {br g b1 b2 : Nat} {s : List (List Int)} (h : NeJ B w0 φ br g b1 b2 s w) (k : Nat) (v : Value) : NeJ B w0 φ br g b1 b2 s (w.setCell ⟨g, k, none⟩ v) :=
  ⟨h.h.row k v, h.k.other (by have := h.lt; have := h.h.lt; show g ≠ b1; omega) v, h.lt⟩
theorem NeJ.callB {B : Nat} {w0 w w' : World} {φ : Phi} {br g b1 b2 : Nat} {s : List (List Int)} (h : NeJ B w0 φ br g b1 b2 s w) (hb : Below w.heap.size w w') : NeJ B w0 φ br g b1 b2 s w' := ⟨h.h.callB hb, h.k.callB hb, h.lt⟩
set_option maxHeartbeats 1000000 in
theorem needed1_any
  {φ : Phi} {br : Nat} {fs : List Fld} {es : List Edt} {n m : Nat} {a : Option Addr} {cap : Nat} {ae : Option Addr} {ce : Nat} {ab : Option Addr} {cb : Nat} (R : RulV φ br fs es n m a cap ae ce ab cb)
    {B : Nat} {w0 : World} {g b1 b2 c : Nat} (x : List Int) (s : List (List Int)) (hsl : s.length ≤ 1000000) (w : World) (hx : Hid (x.length = n)) (hJ : NeJ B w0 φ br g b1 b2 s w) (hO : Own B φ w 3 (some ⟨g, 0, none⟩) c x) :
    Calls Tryd.prog 73 #[.slice (some ⟨g, 0, none⟩) n c, .pointer (some ⟨b1, 0, none⟩), .pointer (some ⟨b2, 0, none⟩)] w (VisPost (NeJ B w0 φ br g b1 b2) B φ g c x (runsV es n m x s)) := by
  have hn12 := R.ok.pos
  have hm60 := R.ok.cnt
  have hfl := Lib.hid (failL_len es x n m)
  obtain ⟨φx, hle, hix, sx, _⟩ := hO.release hJ.h.inv
  have Rx := R.mono hle
  have JH := Lib.hid hJ
  have OH := Lib.hid hO
  have c1 : w.cell? ⟨b1, 0, none⟩ = some (.pointer (some ⟨br, 0, none⟩)) := hJ.k.cell 0
  have hfx := Lib.hid hix.fz
  obtain ⟨q, hq⟩ : ∃ q, Hid (runsV es n m x s = q) := ⟨_, Lib.hid rfl⟩
  rw [hq.out]
  clear hJ hO hle hix
  go_enter Tryd.func73, Tryd.ntmps73
  go_wp2_with fail
  refine (fails_any Rx w hfx.out _ c x sx hx).mono ?_
  rintro e w1 ⟨a5, c5, rfl, hi5, ho5⟩
  have HB := Lib.hid hi5.bel
  obtain ⟨φ4, a4, c4, i4, n4, o4, f4, k4, s4⟩ := JH.out.h.open_ hi5.bel ho5
  have I4 := Lib.hid i4
  have N4 := Lib.hid n4
  have O4 := Lib.hid o4
  have F4 := Lib.hid f4
  have K4 := Lib.hid k4
  have S4 := Lib.hid s4
  clear hi5 ho5 i4 n4 o4 f4 k4 s4 c1
  have hq2 : Hid ((if (failL es x n m).length = 0 then s else s ++ [failL es x n m], false) = q) := Lib.hid hq.out
  generalize failL es x n m = l at *
  obtain ⟨nl, hnl⟩ : ∃ k, Hid (l.length = k) := ⟨_, Lib.hid rfl⟩
  rw [hnl.out]
  rw [hnl.out] at hfl hq2
  by_cases h0 : nl = 0
  · subst h0
    have HQ : Hid (q = (s, false)) := Lib.hid (by rw [← hq2.out, if_pos rfl])
    go_wp2
    go_ret
    rw [HQ.out]
    exact ⟨rfl, JH.out.callB HB.out, OH.out.callB HB.out⟩
  · have HQ : Hid (q = (s ++ [l], false)) := Lib.hid (by rw [← hq2.out, if_neg h0])
    have k6 : w1.cell? ⟨b2, 0, none⟩ = some (.slice a4 s.length c4) := K4.out.cell 0
    have hgt : (0 : Int) < nl := by omega
    have hgl : 0 < l.length := by rw [hnl.out]; omega
    have hgi : (0 : Int) < (l.length : Int) := by omega
    rw [← hnl.out]
    go_wp2_with (at_builtin; (refine wpList_app1F (α := List Int) rfl _ _ 40 rfl slLL I4.out a4 c4 s O4.out _ _ l ⟨a5, c5, rfl, S4.out⟩ rfl 1 rfl (by omega) ?_; intro a8 c8 w8 hi8 ho8 hg8 hf8; have K8 := Lib.hid (JH.out.h.cell2 HB.out F4.out K4.out hg8); have k80 : w8.cell? ⟨b2, 0, none⟩ = some (.slice a4 s.length c4) := K8.out.cell 0; have k81 : w8.frozen? ⟨b2, 0, none⟩ = false := K8.out.frz 0; have HP := Lib.hid (JH.out.h.put HB.out N4.out F4.out K4.out hi8 ho8 hg8 hf8); have HG := Lib.hid hg8; clear hi8 ho8 hg8 hf8))
    go_ret
    rw [HQ.out]
    have hlt := JH.out.h.lt
    have hl1 := JH.out.lt
    have hgw := JH.out.h.gw
    have hsz := HB.out.size
    have hsa : (w1.alloc (.cells #[.slice a5 l.length c5] 26)).heap.size = w1.heap.size + 1 := alloc_size _ _
    have hne : ∀ b, b ≤ g → some b ≠ a4.map (·.block) := fun b hb e => by
      cases a4 with
      | none => cases e
      | some z => have := F4.out z rfl; have e2 : b = z.block := by simpa using e
                  omega
    have e2 : (s ++ [l]).length = s.length + 1 := by simp
    have HP2 := HP.out
    refine ⟨rfl, ⟨?_, ?_, hl1⟩, ?_⟩
    · rw [e2] at HP2
      exact HP2
    · have hk1 : Blk w8 b1 #[.pointer (some ⟨br, 0, none⟩)] 54 := (HG.out.block b1 (by omega) (hne b1 (by omega))).trans ((JH.out.k.callB HB.out).alloc _)
      exact hk1.other (by show b2 ≠ b1; omega) _
    · exact (((OH.out.callB HB.out).alloc _).other HG.out (fun y hy e => by cases hy; exact hne g (Nat.le_refl _) e)).other (grown_set _ _ _ _) (fun y hy e => by cases hy; have e2 : g = b2 := Option.some.inj e; omega)
end Go.Proofs.YtambgcijceecpaaDoor
