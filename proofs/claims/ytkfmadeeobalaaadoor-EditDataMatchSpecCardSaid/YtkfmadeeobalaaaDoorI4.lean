/- The walk of Impute. Conditions: none beyond what the claim form gives. -/
import Derived.Test.YtkfmadeeobalaaaDoorI3
namespace Go.Proofs.YtkfmadeeobalaaaDoor
open Go.RowKit
set_option linter.unusedVariables false
/-- A result's cell, while a call is under way. -/
structure ResSt (w0 : World) (φ0 φ : Phi) (b : Nat) (cs : Array Value) (T : TypeId) (wr : World) : Prop where
  inv : Inv w0.heap.size w0 φ0 φ wr
  k : Blk wr b cs T
  f : φ b = none
  l : w0.heap.size ≤ b
section
variable {w0 wr w' : World} {φ0 φ φ' : Phi} {b : Nat} {cs : Array Value} {T : TypeId}
theorem ResSt.start (hi : Inv w0.heap.size w0 φ0 φ wr) (cs : Array Value) (T : TypeId) : ResSt w0 φ0 φ wr.heap.size cs T (wr.alloc (.cells cs T)) := ⟨hi.alloc _, Blk.new _ _ _, hi.fz.new_none (Nat.le_refl _), hi.size⟩
theorem ResSt.call (h : ResSt w0 φ0 φ b cs T wr) (hi : Inv wr.heap.size wr φ φ' w') : ResSt w0 φ0 φ' b cs T w' := ⟨h.inv.call hi, h.k.callB hi.bel, (hi.new _ h.k.lt).trans h.f, h.l⟩
theorem ResSt.callB (h : ResSt w0 φ0 φ b cs T wr) (hb : Below wr.heap.size wr w') : ResSt w0 φ0 φ b cs T w' := ⟨h.inv.callB hb, h.k.callB hb, h.f, h.l⟩
end
abbrev Rpr := List Int × List Int × Int
/-- The repair that Impute hands back, and its fault. -/
noncomputable def impuR (fs : List Fld) (es : List Edt) (rec : List Int) (ds : List (List Int)) (seed : ByteArray) (F : Int) : Rpr × Int :=
  if F ≠ 0 then (([], [], 0), F)
  else if listF fs.length ds ≠ 0 then (([], [], 0), listF fs.length ds)
  else if (leastS fs es fs.length es.length rec).1.2.2 = true then
    (if 100 < seed.size then (([], [], 0), 2)
     else (((impR fs es fs.length es.length rec (leastS fs es fs.length es.length rec).1.1 ds (shufF seed ds.length)).1, (leastS fs es fs.length es.length rec).1.1, (impR fs es fs.length es.length rec (leastS fs es fs.length es.length rec).1.1 ds (shufF seed ds.length)).2), 0))
  else (([], [], 0), 9)
theorem firstS_len {fs : List Fld} {es : List Edt} {n m : Nat} (h : PlOk fs es n m) {rec : List Int} (hr : rec.length = n) {l : List Int} (h2 : (firstS fs es n m rec l).2 = true) : (firstS fs es n m rec l).1.length = n := ((mem_first hr).1 (firstS_some h2).1).1
/-- The record of a repair has the length of the record. -/
theorem impR_len {fs : List Fld} {es : List Edt} {n m : Nat} {rec fields : List Int} {ds : List (List Int)} {order : List Int} (hr : rec.length = n) (hf : fields.length ≠ 0 → (firstS fs es n m rec fields).1.length = n) (ho : ∀ k ∈ order, 0 ≤ k ∧ k < (ds.length : Int)) : (impR fs es n m rec fields ds order).1.length = n := by
  have h := impF_ok (fs := fs) (es := es) (n := n) (m := m) (rec := rec) (fields := fields) (ds := ds) (r0 := rec) order (rec, -1, 0) ho (IOk.start rec)
  unfold impR
  split
  · exact hr
  · next h0 =>
    split
    · exact hf h0
    · next h1 => show (impF fs es n m rec fields ds order (rec, -1, 0)).1.length = n; rw [(h.yes (by omega)).1, takenF_len, hr]
def RprPost (r : Rpr) (G : Int) (φ : Phi) (w : World) (e : Ending) (w' : World) : Prop :=
  ∃ φ' ar nr cr af nf cf, e = .returned (.tuple #[.agg #[.slice ar nr cr, .slice af nf cf, .int .i64 r.2.2], .int .i64 G]) ∧ Inv w.heap.size w φ φ' w' ∧ SlV φ' ar cr r.1 ∧ SlV φ' af cf r.2.1 ∧ r.1.length = nr ∧ r.2.1.length = nf
end Go.Proofs.YtkfmadeeobalaaaDoor
