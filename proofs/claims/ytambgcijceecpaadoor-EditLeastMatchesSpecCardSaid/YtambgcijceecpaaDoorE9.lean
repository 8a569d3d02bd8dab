/- The walk of with; the records that agree outside of the free fields. Conditions: none beyond what the claim form gives. -/
import Derived.Test.YtambgcijceecpaaDoorE8
namespace Go.Proofs.YtambgcijceecpaaDoor
open Go.RowKit
set_option linter.unusedVariables false

def WithPost (fs : List Fld) (es : List Edt) (rec : List Int) (φ : Phi) (w : World) (e : Ending) (w' : World) : Prop :=
  ∃ φ', Inv w.heap.size w φ φ' w' ∧ ((planF fs es ≠ 0 ∧ e = .returned (.tuple #[.pointer none, .int .i64 (planF fs es)])) ∨ (planF fs es = 0 ∧ ∃ br, e = .returned (.tuple #[.pointer (some ⟨br, 0, none⟩), .int .i64 (recF fs.length rec)]) ∧ RulF φ' br fs es))
theorem with_any (n : Nat) (a : Option Addr) (cap : Nat) (fs : List Fld) (m : Nat) (ae : Option Addr) (ce : Nat) (es : List Edt) (w : World) (φ : Phi) (hφ : Fz φ w) (s : SlV φ a cap fs) (hn : Hid (fs.length = n)) (hm : n ≤ 9223372036854775807) (hg : Hid (∀ x ∈ fs, FldG x)) (se : SlV φ ae ce es) (hne : Hid (es.length = m)) (hme : m ≤ 9223372036854775807) (hge : Hid (∀ x ∈ es, EdtG x))
    (nr : Nat) (a2 : Option Addr) (c2 : Nat) (rec : List Int) (sr : SlV φ a2 c2 rec) (hrl : Hid (rec.length = nr)) (hmr : nr ≤ 9223372036854775807) :
    Calls Tryd.prog 30 #[.agg #[.slice a n cap, .slice ae m ce], .slice a2 nr c2] w (WithPost fs es rec φ w) := by
  have hi0 := Lib.hid ((Inv.start hφ).alloc (.cells #[.slice a n cap, .slice ae m ce] 25))
  go_enter Tryd.func30, Tryd.ntmps30
  go_wp2_with fail
  refine (rulesOf_any n a cap fs m ae ce es _ φ (hφ.alloc _) s hn hm hg se hne hme hge).mono ?_
  rintro e w1 ⟨φ1, hi1, ⟨hp, rfl⟩ | ⟨hp, br, rfl, hR⟩⟩
  · have hgg : (planF fs es != 0) = true := by simpa using hp
    have HP := Lib.hid hp
    have HI := Lib.hid (hi0.out.call hi1)
    clear hp hi1 hi0
    go_wp2
    go_ret2
    exact ⟨φ1, HI.out, .inl ⟨HP.out, rfl⟩⟩
  · have HP := Lib.hid hp
    have HI := Lib.hid (hi0.out.call hi1)
    have HR := Lib.hid hR
    obtain ⟨a', cap', ae', ce', ab', cb', hV⟩ := hR.open_ hp hn.out hne.out
    have srr := sr.mono HI.out.le
    clear hp hi1 hi0
    go_wp2_with (go_at_call 64; refine (recordFault_any hV w1 HI.out.fz nr a2 c2 rec srr hrl hmr).mono ?_; rintro e w' ⟨rfl, rfl⟩)
    go_ret2
    exact ⟨φ1, HI.out, .inr ⟨HP.out, br, by rw [hn.out]; rfl, HR.out⟩⟩
/-- The records that have those of x outside of the free fields from number f on, in order. -/
def comps (fs : List Fld) (free : List Bool) : Nat → Nat → List Int → List (List Int)
  | 0, _, x => [x]
  | r + 1, f, x => if free.getD f false = true then (fs.getD f fld0).2.1.flatMap (fun c => comps fs free r (f + 1) (x.set f c)) else comps fs free r (f + 1) x
theorem comps_skip {fs : List Fld} {free : List Bool} {x : List Int} : ∀ {d r f : Nat}, (∀ i, f ≤ i → i < f + d → free.getD i false = false) → comps fs free (r + d) f x = comps fs free r (f + d) x
  | 0, r, f, _ => rfl
  | d + 1, r, f, h => by
    have h0 := h f (Nat.le_refl _) (by omega)
    have e : comps fs free (r + (d + 1)) f x = comps fs free (r + d) (f + 1) x := by
      show (if free.getD f false = true then _ else _) = _
      rw [h0, if_neg (by simp)]; rfl
    rw [e, comps_skip (d := d) (r := r) (f := f + 1) (fun i h1 h2 => h i (by omega) (by omega))]
    congr 1; omega
theorem comps_to {fs : List Fld} {free : List Bool} {x : List Int} {n f f' : Nat} (h1 : f ≤ f') (h2 : f' ≤ n) (h : ∀ i, f ≤ i → i < f' → free.getD i false = false) : comps fs free (n - f) f x = comps fs free (n - f') f' x := by
  have := comps_skip (fs := fs) (free := free) (x := x) (d := f' - f) (r := n - f') (f := f) (fun i a b => h i a (by omega))
  rw [show n - f' + (f' - f) = n - f by omega, show f + (f' - f) = f' by omega] at this
  exact this
/-- A visit of each, up to one that says that it is enough. -/
def foldU {σ α : Type} (V : α → σ → σ × Bool) : List α → σ → σ × Bool
  | [], s => (s, false)
  | x :: l, s => if (V x s).2 = true then ((V x s).1, true) else foldU V l (V x s).1
theorem foldU_append {σ α : Type} (V : α → σ → σ × Bool) : ∀ (l l' : List α) (s : σ), foldU V (l ++ l') s = if (foldU V l s).2 = true then ((foldU V l s).1, true) else foldU V l' (foldU V l s).1
  | [], l', s => by simp [foldU]
  | x :: l, l', s => by
    rw [List.cons_append, foldU, foldU]
    split
    · simp
    · exact foldU_append V l l' _
theorem foldU_one {σ α : Type} (V : α → σ → σ × Bool) (x : α) (s : σ) : foldU V [x] s = V x s := by
  rw [foldU, foldU]
  split
  · next h => exact Prod.ext rfl h.symm
  · next h => exact Prod.ext rfl (by simpa using h : (V x s).2 = false).symm
theorem drop_getD {α : Type} {d : α} {l : List α} {k : Nat} (h : k < l.length) : l.drop k = l.getD k d :: l.drop (k + 1) := by
  rw [getD_elem0 _ _ _ h]; exact List.drop_eq_getElem_cons h
theorem SlV.boolsD {φ : Phi} {a : Option Addr} {cap : Nat} {xs : List Bool} (h : SlV φ a cap xs) {k n : Nat} (hn : Hid (xs.length = n)) (hk : k < n) :
    ∃ b off, a = some ⟨b, off, none⟩ ∧ ∀ k, k < n → ∀ w, Fz φ w → b < w.heap.size ∧ w.cell? ⟨b, off + k, none⟩ = some (.bool (xs.getD k false)) := by
  obtain ⟨b, off, ha, hc⟩ := h.cellsD false hn hk
  refine ⟨b, off, ha, fun k hk w hw => ?_⟩
  obtain ⟨cs, h1, hj⟩ := hc k hk
  cases h1
  have j0 := hj 0 (by simp)
  simp [Rep.size] at j0
  exact ⟨hw.lt j0, hw.cell j0⟩
end Go.Proofs.YtambgcijceecpaaDoor
