/- The walks of the reference's lineage, CheckCodings, and of slices.Clone at codings. Conditions: none beyond what the claim form gives. -/
import Derived.Test.YthnmglckhfajeaaR3
namespace Go.Proofs.Ythnmglckhfajeaa
open Go.RowKit
set_option linter.unusedVariables false

def SlPost1 {α : Type} [Rep α] (xs : List α) (φ : Phi) (w : World) (e : Ending) (w' : World) : Prop :=
  ∃ a cap φ', e = .returned (.slice a xs.length cap) ∧ Inv w.heap.size w φ φ' w' ∧ SlV φ' a cap xs
theorem TrOk.toPar {l : List Nod} {n : Nat} (h : TrOk l n) : ParOk l n := ⟨h.toFrOk, h.par⟩
theorem abv_tr {l : List Nod} {n : Nat} (h : TrOk l n) {c : Int} (hc : (ix l c).isSome = true) : abvF l c = ((upL l c).tail, true) ∧ upL l c = c :: (upL l c).tail := by
  obtain ⟨⟨m, hm, _⟩, h0⟩ := code_lv h hc
  unfold abvF
  rw [h.len, hm]
  refine ⟨rfl, ?_⟩
  rw [(lvl_par h hc).2]; rfl
set_option maxHeartbeats 400000 in
theorem lineage_any {w : World} {a : Option Addr} {c n : Nat} {l : List Nod} {φ : Phi} (hφ : Fz φ w) (s : SlV φ a c l) (hok : Hid (TrOk l n)) (x : Int) (hx : (ix l x).isSome = true) :
    Calls Try.prog 40 #[.slice a n c, .int .i64 x] w (SlPost1 (upL l x) φ w) := by
  have HX := Lib.hid hx
  obtain ⟨h1, h2⟩ := abv_tr hok.out hx
  have H1 := Lib.hid h1
  have H2 := Lib.hid h2
  have h8 := upL_len hok.out (.inr hx)
  clear h1 h2 hx
  go_enter Try.func40, Try.ntmps40
  go_wp2_with fail
  refine (above_any hφ s (Lib.hid hok.out.toPar) x HX.out).mono ?_
  rintro e w1 ⟨au, cu, φ1, rfl, hi1, su⟩
  rw [H1.out] at su ⊢
  dsimp only at su ⊢
  generalize hup : (upL l x).tail = up at *
  have hul : up.length ≤ 8 := by rw [← hup, List.length_tail]; omega
  replace hup := Lib.hid hup
  have I1 := Lib.hid hi1
  have hi2 := hi1.alloc (.cells #[.int .i64 x] 3)
  have ho2 := Own.lit (α := Int) hi1 3 (xs := [x]) (arr := #[.int .i64 x]) (RepL.single rfl) (by simp [maxLen])
  clear hi1
  go_wp2_with (at_builtin; refine wpList_apps (α := Int) rfl _ _ 82 rfl slI hi2 _ 1 [x] ho2 au cu up su rfl rfl (by simp; omega) ?_; intro a2 cap2 w2 hi3 hown3 hgr)
  go_ret
  obtain ⟨φ', hle, hi, hs, _⟩ := hown3.release hi3
  have e : upL l x = [x] ++ up := H2.out
  rw [e]
  exact ⟨a2, cap2, φ', rfl, hi, hs⟩

set_option maxHeartbeats 400000 in
theorem Clone_any {w : World} {ac : Option Addr} {cc nc : Nat} {cs : List Cdg} {φ : Phi} (hφ : Fz φ w) (sc : SlV φ ac cc cs) (hnc : Hid (cs.length = nc)) (hmc : nc ≤ 20000) :
    Calls Try.prog 39 #[.slice ac nc cc] w (fun e w' => ∃ a cap, e = .returned (.slice a nc cap) ∧ OwSt w φ 32 a cap cs w') := by
  cases ac with
  | none =>
    have h0 : cs = [] := List.eq_nil_of_length_eq_zero (by have := sc.capn; have := sc.nil rfl; omega)
    subst h0
    have hn0 : nc = 0 := hnc.out.symm
    subst hn0
    have hcc := sc.nil rfl
    subst hcc
    have he := fun w => Lib.run_eql_slice_nil (P := Try.prog) w 27 32 none 0 0 0 0 Try.underlying27
    go_enter Try.func39, Try.ntmps39
    go_wp2
    go_ret
    exact ⟨none, 0, rfl, Inv.start hφ, Own.nil _ _ _ _⟩
  | some ad =>
    have he := fun w => Lib.run_eql_slice_nil (P := Try.prog) w 27 32 (some ad) nc cc 0 0 Try.underlying27
    have hi0 := Inv.start hφ
    have hi2 := hi0.alloc (.cells #[] 32)
    have ho2 := Own.lit0 (α := Cdg) (E := 32) hi0
    go_enter Try.func39, Try.ntmps39
    go_wp2_with (at_builtin; refine wpList_apps (α := Cdg) rfl _ _ 27 rfl slC hi2 _ 0 [] ho2 (some ad) cc cs sc rfl (by rw [hnc.out]; rfl) (by rw [hnc.out]; simp; omega) ?_; intro a2 cap2 w2 hi3 hown3 hgr)
    go_ret
    exact ⟨a2, cap2, by simp [hnc.out], hi3, hown3⟩
end Go.Proofs.Ythnmglckhfajeaa
