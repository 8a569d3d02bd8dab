/- The tree of a frame in memory, and the walks of its small methods. Conditions: the tree is in memory as told. -/
import Derived.Test.YtapkkplndhbapaaDoorFr
import Derived.Test.YtapkkplndhbapaaDoorMap
namespace Go.Proofs.YtapkkplndhbapaaDoor
open Go.RowKit
set_option linter.unusedVariables false

def vI (x : Int) (v : Value) : Prop := v = .int .i64 x
theorem zeroI (w : World) : (zeroValue 3).run Tryd.prog w = .ok (.int .i64 0) w := by kernel_rfl
theorem look_ok {W : World} {r : Nat} {o : Obj} {M : List (Int × Int)} (ho : W.heap[r]? = some o) (hm : MapO vI o M) (k : Int) :
    (Instr.lookup 79 (.map (some r)) (.int .i64 k) true).run Tryd.prog W = .ok (.tuple #[.int .i64 ((mget M k).getD 0), .bool (mget M k).isSome]) W := by
  rcases run_lookup (P := Tryd.prog) (w := W) Tryd.underlying79 Tryd.underlying3 ho hm k true (zeroI W) with ⟨x, v, h1, h2, h3⟩ | ⟨h1, h3⟩
  · cases h2; rw [h1]; exact h3
  · rw [h1]; exact h3
theorem look_no {W : World} {r : Nat} {o : Obj} {M : List (Int × Int)} (ho : W.heap[r]? = some o) (hm : MapO vI o M) (k : Int) :
    (Instr.lookup 79 (.map (some r)) (.int .i64 k) false).run Tryd.prog W = .ok (.int .i64 ((mget M k).getD 0)) W := by
  rcases run_lookup (P := Tryd.prog) (w := W) Tryd.underlying79 Tryd.underlying3 ho hm k false (zeroI W) with ⟨x, v, h1, h2, h3⟩ | ⟨h1, h3⟩
  · cases h2; rw [h1]; exact h3
  · rw [h1]; exact h3

/-- A map of integers in memory, by what it answers. -/
def MapW (w : World) (r : Nat) (f : Int → Option Int) : Prop := ∃ o M, w.heap[r]? = some o ∧ MapO vI o M ∧ ∀ k, mget M k = f k
theorem MapW.lt {w : World} {r : Nat} {f : Int → Option Int} (h : MapW w r f) : r < w.heap.size := by obtain ⟨o, M, h1, _⟩ := h; exact (Array.getElem?_eq_some_iff.1 h1).1
theorem MapW.below {w w' : World} {r B : Nat} {f : Int → Option Int} (h : MapW w r f) (hb : Below B w w') (hr : r < B) : MapW w' r f := by
  obtain ⟨o, M, h1, h2⟩ := h; exact ⟨o, M, (hb.block r hr).trans h1, h2⟩
theorem MapW.callB {w w' : World} {r : Nat} {f : Int → Option Int} (h : MapW w r f) (hb : Below w.heap.size w w') : MapW w' r f := h.below hb h.lt
theorem MapW.drewN {w : World} {r : Nat} {f : Int → Option Int} (h : MapW w r f) (q : Nat) : MapW (w.drewN q) r f := h
theorem MapW.look_ok {w : World} {r : Nat} {f : Int → Option Int} (h : MapW w r f) (k : Int) :
    (Instr.lookup 79 (.map (some r)) (.int .i64 k) true).run Tryd.prog w = .ok (.tuple #[.int .i64 ((f k).getD 0), .bool (f k).isSome]) w := by
  obtain ⟨o, M, h1, h2, h3⟩ := h
  have := _root_.Go.Proofs.YtapkkplndhbapaaDoor.look_ok (W := w) h1 h2 k
  rwa [h3] at this
theorem MapW.look_no {w : World} {r : Nat} {f : Int → Option Int} (h : MapW w r f) (k : Int) :
    (Instr.lookup 79 (.map (some r)) (.int .i64 k) false).run Tryd.prog w = .ok (.int .i64 ((f k).getD 0)) w := by
  obtain ⟨o, M, h1, h2, h3⟩ := h
  have := _root_.Go.Proofs.YtapkkplndhbapaaDoor.look_no (W := w) h1 h2 k
  rwa [h3] at this
theorem MapW.put {w : World} {r : Nat} {f : Int → Option Int} (h : MapW w r f) (k x : Int) :
    ∃ o, (∀ q, (Instr.mapUpdate 79 (.map (some r)) (.int .i64 k) (.int .i64 x)).run Tryd.prog (w.drewN q) = .ok () (setMap (w.drewN q) r o)) ∧ (∀ W, W.heap[r]? = some o → MapW W r (fun k' => if k' = k then some x else f k')) := by
  obtain ⟨o, M, h1, h2, h3⟩ := h
  have key : ∀ q, _ := fun q => run_mapUpdate (P := Tryd.prog) (w := w.drewN q) Tryd.underlying79 Tryd.underlying3 h1 h2 k (x := x) (v := .int .i64 x) rfl
  exact ⟨_, fun q => (key q).1, fun W hW => ⟨_, _, hW, (key 0).2, fun k' => by rw [mget_mput, h3]⟩⟩

structure TreeW (w : World) (bt : Nat) (a : Option Addr) (c n m1 m2 : Nat) (f1 f2 : Int → Option Int) : Prop where
  blk : Blk w bt #[.slice a n c, .map (some m1), .map (some m2)] 87
  at_ : MapW w m1 f1
  lev : MapW w m2 f2
theorem TreeW.callB {w w' : World} {bt : Nat} {a : Option Addr} {c n m1 m2 : Nat} {f1 f2 : Int → Option Int} (h : TreeW w bt a c n m1 m2 f1 f2) (hb : Below w.heap.size w w') : TreeW w' bt a c n m1 m2 f1 f2 :=
  ⟨h.blk.callB hb, h.at_.callB hb, h.lev.callB hb⟩

theorem has_any {w : World} {bt : Nat} {a : Option Addr} {c n m1 m2 : Nat} {f1 f2 : Int → Option Int} (h : TreeW w bt a c n m1 m2 f1 f2) (k : Int) :
    Calls Tryd.prog 49 #[.pointer (some ⟨bt, 0, none⟩), .int .i64 k] w fun e w' => e = .returned (.bool (f1 k).isSome) ∧ w = w' := by
  have e1 := h.blk.cell 1
  simp at e1
  have hl := h.at_.look_ok k
  obtain ⟨v, hv⟩ : ∃ v, Hid (f1 k = v) := ⟨_, Lib.hid rfl⟩
  rw [hv.out] at hl ⊢
  go_enter Tryd.func49, Tryd.ntmps49
  go_wp2
  go_ret
  exact ⟨rfl, rfl⟩
theorem has_b {w : World} {bt : Nat} {a : Option Addr} {c n m1 m2 : Nat} {f1 f2 : Int → Option Int} (h : TreeW w bt a c n m1 m2 f1 f2) (k : Int) {b : Bool} (hk : (f1 k).isSome = b) :
    Calls Tryd.prog 49 #[.pointer (some ⟨bt, 0, none⟩), .int .i64 k] w fun e w' => e = .returned (.bool b) ∧ w = w' := by rw [← hk]; exact has_any h k
theorem has_q {w : World} {bt : Nat} {a : Option Addr} {c n m1 m2 : Nat} {f1 f2 : Int → Option Int} (h : TreeW w bt a c n m1 m2 f1 f2) (k : Int) {b : Bool} (hk : (f1 k).isSome = b) :
    Calls Tryd.prog 49 #[.pointer (some ⟨bt, 0, none⟩), .int .i64 k] w fun e w' => e = .returned (.bool b) ∧ w' = w := (has_b h k hk).mono fun _ _ h => ⟨h.1, h.2.symm⟩
end Go.Proofs.YtapkkplndhbapaaDoor
