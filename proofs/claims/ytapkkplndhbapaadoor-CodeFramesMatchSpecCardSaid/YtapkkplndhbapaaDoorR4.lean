/- The walks of the reference's lineage, CheckCodings, and of slices.Clone at codings. Conditions: none beyond what the claim form gives. -/
import Derived.Test.YtapkkplndhbapaaDoorR3
import Derived.Test.YtapkkplndhbapaaDoorK8
namespace Go.Proofs.YtapkkplndhbapaaDoor
open Go.RowKit
set_option linter.unusedVariables false

theorem TrOk.toPar {l : List Nod} {n : Nat} (h : TrOk l n) : ParOk l n := ⟨h.toFrOk, h.par⟩
theorem abv_tr {l : List Nod} {n : Nat} (h : TrOk l n) {c : Int} (hc : (ix l c).isSome = true) : abvF l c = ((upL l c).tail, true) ∧ upL l c = c :: (upL l c).tail := by
  obtain ⟨⟨m, hm, _⟩, h0⟩ := code_lv h hc
  unfold abvF
  rw [h.len, hm]
  refine ⟨rfl, ?_⟩
  rw [(lvl_par h hc).2]; rfl
set_option maxHeartbeats 400000 in
theorem lineage_own {w : World} {a : Option Addr} {c n : Nat} {l : List Nod} {φ : Phi} (hφ : Fz φ w) (s : SlV φ a c l) (hok : Hid (TrOk l n)) (x : Int) (hx : (ix l x).isSome = true) :
    Calls Tryd.prog 33 #[.slice a n c, .int .i64 x] w (OwnPost w φ 3 (upL l x)) := by
  have HX := Lib.hid hx
  obtain ⟨h1, h2⟩ := abv_tr hok.out hx
  have H1 := Lib.hid h1
  have H2 := Lib.hid h2
  have h8 := upL_len hok.out (.inr hx)
  clear h1 h2 hx
  go_enter Tryd.func33, Tryd.ntmps33
  go_wp2_with fail
  refine (above_any hφ s (Lib.hid hok.out.toPar) x HX.out).mono ?_
  rintro e w1 ⟨au, cu, φ1, rfl, hi1, su⟩
  rw [H1.out] at su ⊢
  dsimp only at su ⊢
  generalize hup : (upL l x).tail = up at *
  have hul : up.length ≤ 8 := by rw [← hup, List.length_tail]; omega
  replace hup := Lib.hid hup
  have I1 := Lib.hid hi1
  have hi2 := hi1.alloc (.cells #[.int .i64 x] 3)
  have ho2 := Own.lit (α := Int) hi1 3 (xs := [x]) (arr := #[.int .i64 x]) (RepL.single rfl) (by simp [maxLen])
  clear hi1
  go_wp2_with (at_builtin; refine wpList_apps (α := Int) rfl _ _ 27 rfl slI hi2 _ 1 [x] ho2 au cu up su rfl rfl (by simp; omega) ?_; intro a2 cap2 w2 hi3 hown3 hgr)
  go_ret
  have e : upL l x = [x] ++ up := H2.out
  rw [e]
  exact ⟨a2, cap2, _, rfl, hi3, hown3⟩
theorem lineage_any {w : World} {a : Option Addr} {c n : Nat} {l : List Nod} {φ : Phi} (hφ : Fz φ w) (s : SlV φ a c l) (hok : Hid (TrOk l n)) (x : Int) (hx : (ix l x).isSome = true) :
    Calls Tryd.prog 33 #[.slice a n c, .int .i64 x] w (SlPost1 (upL l x) φ w) := by
  refine (lineage_own hφ s hok x hx).mono ?_
  rintro e w' ⟨a2, cap2, φ1, rfl, hi, ho⟩
  obtain ⟨φ', _, hi', hs, _⟩ := ho.release hi
  exact ⟨a2, cap2, φ', rfl, hi', hs⟩

end Go.Proofs.YtapkkplndhbapaaDoor
