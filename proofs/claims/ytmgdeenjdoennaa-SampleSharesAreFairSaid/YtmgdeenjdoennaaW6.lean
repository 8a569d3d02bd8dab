/- The walk of slices.Clone at []int. Condition: the length's bytes. -/
import Derived.Test.YtmgdeenjdoennaaT
import Derived.WalkSpells
namespace Go.Proofs.Ytmgdeenjdoennaa
open Go.RowKit
set_option linter.unusedVariables false

def OwnPost (w0 : World) (φ0 : Phi) (E : TypeId) (xs : List Int) (e : Ending) (w' : World) : Prop :=
  ∃ a cap φ', e = .returned (.slice a xs.length cap) ∧ Inv w0.heap.size w0 φ0 φ' w' ∧ Own w0.heap.size φ' w' E a cap xs

theorem Clone_any (a : Option Addr) (cap : Nat) (xs : List Int) (w : World) (φ : Phi) (hφ : Fz φ w) (hs : SlV φ a cap xs) (hl : xs.length * 8 ≤ 140737488355328) :
    Calls Try.prog 21 #[.slice a xs.length cap] w (OwnPost w φ 3 xs) := by
  have hn := fun (w : World) (a : Option Addr) (n c : Nat) => Lib.run_eql_slice_nil (P := Try.prog) w 22 3 a n c 0 0 Try.underlying22
  cases a with
  | none =>
    have hx : xs = [] := List.eq_nil_of_length_eq_zero (by have := hs.capn; have := hs.nil rfl; omega)
    subst hx
    go_enter Try.func21, Try.ntmps21
    go_wp2
    go_ret
    exact ⟨none, 0, φ, rfl, Inv.start hφ, Own.nil _ _ _ _⟩
  | some x =>
    have hi := Inv.start hφ
    go_enter Try.func21, Try.ntmps21
    go_wp2_with (at_builtin; refine wpList_apps (α := Int) rfl _ _ 22 rfl sl22 (hi.alloc _) _ _ [] (Own.lit0 hi 3) _ _ xs hs rfl rfl (by simpa using hl) ?_; intro a2 cap2 w2 hi2 hown2 _)
    go_wp2
    go_ret
    rw [List.nil_append] at hown2
    exact ⟨a2, cap2, φ, rfl, hi2, hown2⟩
end Go.Proofs.Ytmgdeenjdoennaa
