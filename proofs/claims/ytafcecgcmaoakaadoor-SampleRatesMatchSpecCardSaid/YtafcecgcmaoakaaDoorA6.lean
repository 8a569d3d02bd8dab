/- The texts of a fraction in lowest terms; a box next to a result's cell. Conditions: none; plain Lean. -/
import Derived.Test.YtafcecgcmaoakaaDoorA5
namespace Go.Proofs.YtafcecgcmaoakaaDoor
open Go.RowKit
set_option linter.unusedVariables false
/-- The texts of a fraction. -/
def ratN (ng : Bool) (s t : ByteArray) : ByteArray × ByteArray × Int := if s.size > 2000 ∨ t.size > 2000 then (⟨#[]⟩, ⟨#[]⟩, 2) else (if ng then ⟨#[45]⟩ ++ s else s, t, 0)
theorem ratR_eq {neg : Bool} {n d : Nat} (hd : 0 < d) : ratR (rat neg n d) = ratN (neg && decide (n / Nat.gcd n d ≠ 0)) (decB (n / Nat.gcd n d)) (decB (d / Nat.gcd n d)) := by
  have h0 : d ≠ 0 := by omega
  unfold ratR ratN
  rw [rat_numAbs h0, rat_den h0]
  congr 1
  congr 1
  have := rat_neg (neg := neg) (n := n) h0
  by_cases hc : (rat neg n d).num < 0
  · have h2 := this.1 hc
    rw [if_pos hc, if_pos (by rw [h2.1, Bool.true_and]; exact decide_eq_true h2.2)]
  · rw [if_neg hc, if_neg]
    intro e
    apply hc
    apply this.2
    rw [Bool.and_eq_true] at e
    exact ⟨e.1, of_decide_eq_true e.2⟩
/-- A box and a result's cell. -/
structure Fr2 (w0 : World) (φ0 φ : Phi) (b : Nat) (cs : Array Value) (T : TypeId) (g : Nat) (ds : Array Value) (E : TypeId) (W : World) : Prop where
  x : RsSt w0 φ0 φ b cs T W
  r : RsSt w0 φ0 φ g ds E W
theorem Fr2.callB {w0 W w' : World} {φ0 φ : Phi} {b g : Nat} {cs ds : Array Value} {T E : TypeId} (h : Fr2 w0 φ0 φ b cs T g ds E W) (hb : Below W.heap.size W w') : Fr2 w0 φ0 φ b cs T g ds E w' := ⟨h.x.callB hb, h.r.callB hb⟩
theorem decB_len {m k : Nat} (hk : (limbs m).length = k) : (decB m).size ≤ 9 * k + 1 := by
  rw [decB_bl, bl_size]
  by_cases h0 : m = 0
  · rw [h0, dec_lt (by omega)]; simp
  · rw [← cat9_trim h0]
    refine Nat.le_trans (List.dropWhile_sublist _).length_le ?_
    rw [cat9_len, hk]; omega
end Go.Proofs.YtafcecgcmaoakaaDoor
