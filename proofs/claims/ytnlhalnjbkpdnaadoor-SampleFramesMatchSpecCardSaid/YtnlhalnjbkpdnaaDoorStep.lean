/- append at a step of a region that draws its order, in the words of Mem. Conditions: none. -/
import Derived.Test.YtnlhalnjbkpdnaaDoorHdr
import Derived.Deep.RegionHeld3
import Derived.Deep.DrawnRows
namespace Go.Proofs.YtnlhalnjbkpdnaaDoor
open Go.RowKit
set_option linter.unusedVariables false
set_option linter.unusedSimpArgs false
def OnlyN (K : Act → World → Prop) : Exit → Act → World → Prop
  | .normal, a, w => K a w
  | _, _, _ => False
theorem onlyN_out {K : Act → World → Prop} : ¬ LetsOut (OnlyN K) := fun ⟨_, _, h⟩ => h
theorem wp_onlyN {P : Program} {o : Oper} {a : Act} {w : World} {K K' : Act → World → Prop} {Q : Exit → Act → World → Prop} (h : o.wp P a w K (OnlyN K')) : o.wp P a w K Q := by
  unfold Oper.wp at *
  generalize (execOp a.eval o).run P w = r at *
  cases r with
  | ok n w' =>
    cases n with
    | value v => exact h
    | skip => exact h
    | defer d => exact h
    | row r args => exact h
    | enter f args =>
      refine Calls.mono h fun e w'' he => ?_
      cases e with
      | returned v => exact he
      | panicked c => exact he.elim
      | outgrown => exact (onlyN_out he).elim
    | _ => exact h
  | halt x w' =>
    cases x with
    | panic v => exact h.elim
    | _ => exact h
/-- A law at a list of operations serves at a step. -/
theorem step_of_list {P : Program} {ops : Array Oper} {o : Oper} {a : Act} {w : World} {K : Act → World → Prop} {Q : Exit → Act → World → Prop} {E : Prop} (hgd : o.guard = none) (h : wpList P ops (OnlyN K) [o] a w) :
    if Region.wanted o (yielded ops a.tmps) = true then Oper.wp P o a w K Q else E := by
  have hw : Region.wanted o (yielded ops a.tmps) = true := by simp [Region.wanted, hgd]
  rw [if_pos hw]
  unfold wpList at h
  rw [if_pos hw] at h
  rcases h with h | ⟨_, h⟩
  · exact wp_onlyN (Oper.wp_mono (fun a w hk => hk) h)
  · exact (onlyN_out h).elim
theorem onlyN_mk {K : Act → World → Prop} {a : Act} {w : World} (h : K a w) : OnlyN K .normal a w := h
/-- A region's ways meet again: one frame (but for a slice's address and capacity), one word of the world. -/
theorem wp_region_cut {P : Program} {id : Nat} {ops : Array Oper} {b : Bool} {Q : Exit → Act → World → Prop} {a : Act} {w : World} {fr : Option Addr → Nat → Act} (S : World → Prop) (h1 : (Code.region id ops b).wp P (OnlyN fun a' w' => ∃ x c, a' = fr x c ∧ S w') a w) (h2 : ∀ x c w, S w → Q .normal (fr x c) w) : (Code.region id ops b).wp P Q a w :=
  Code.wp_mono (fun e a w h => by
    cases e <;> first | exact h.elim | (obtain ⟨x, c, rfl, hs⟩ := (h : ∃ x c, a = fr x c ∧ S w); exact h2 x c w hs)) h1
section
variable {α : Type} [Rep α]
theorem step_appF {P : Program} {w : World} {ops : Array Oper} {o : Oper} {act : Act} {K : Act → World → Prop} {Q : Exit → Act → World → Prop} {EE : Prop} (hgd : o.guard = none) (s x : Operand) (T : TypeId)
    (ho : o.op = .call { callee := .builtin .append, args := #[s, x], argTypes := #[T, T] })
    {E : TypeId} {z : Value} {bytes : Nat} (st : SliceTy P T E z (Rep.size α) bytes) {B : Nat} {w0 : World} {φ0 φ : Phi} (hi : Inv B w0 φ0 φ w)
    (a : Option Addr) (cap : Nat) (xs : List α) (hs : act.eval s = .slice a xs.length cap) (hown : Own B φ w E a cap xs)
    (ad : Addr) (c : Nat) (ys : List α) (news : List Value) (m : Nat) (hx : act.eval x = .slice (some ad) m c) (hm : ys.length = m) (hrep : RepL φ ys news)
    (hnews : ∀ j u, news[j]? = some u → w.cell? (ad.add j) = some u) (hbound : (xs.length + ys.length) * bytes ≤ 140737488355328)
    (h : ∀ a' cap' w', Inv B w0 φ0 φ w' → Own B φ w' E a' cap' (xs ++ ys) → w.grownBy w' (a.map (·.block)) → (∀ x, a' = some x → a.map (·.block) = some x.block ∨ w.heap.size ≤ x.block) → K (act.put o.dst (.slice a' (xs ++ ys).length cap')) w') :
    if Region.wanted o (yielded ops act.tmps) = true then Oper.wp P o act w K Q else EE :=
  step_of_list hgd (wpList_appF hgd s x T ho st hi a cap xs hs hown ad c ys news m hx hm hrep hnews hbound h)
end
end Go.Proofs.YtnlhalnjbkpdnaaDoor
