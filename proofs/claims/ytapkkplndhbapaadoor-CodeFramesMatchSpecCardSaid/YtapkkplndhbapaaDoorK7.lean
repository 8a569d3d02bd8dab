/- The walk of coded. Conditions: the nodes and codes are in memory as told. -/
import Derived.Test.YtapkkplndhbapaaDoorK6
import Derived.Test.YtapkkplndhbapaaDoorIdx
namespace Go.Proofs.YtapkkplndhbapaaDoor
open Go.RowKit
set_option linter.unusedVariables false

def miss5 (l : List Nod) (cs : List Int) (i : Nat) : Int := if (ix l (cs.getD i 0)).isSome = true then 0 else 5
noncomputable def codedF (l : List Nod) (cs : List Int) : Int := if treeF l ≠ 0 then treeF l else scan (miss5 l cs) cs.length
def CodedPost (l : List Nod) (cs : List Int) (n : Nat) (a : Option Addr) (c : Nat) (w : World) (e : Ending) (w' : World) : Prop :=
  Below w.heap.size w w' ∧ ((codedF l cs ≠ 0 ∧ e = .returned (.tuple #[.pointer none, .int .i64 (codedF l cs)])) ∨ (codedF l cs = 0 ∧ TrOk l n ∧ (∀ i, i < cs.length → (ix l (cs.getD i 0)).isSome = true) ∧ ∃ bt m1 m2, e = .returned (.tuple #[.pointer (some ⟨bt, 0, none⟩), .int .i64 0]) ∧ TreeW w' bt a c n m1 m2 (atF l) (lvF l)))
theorem has_t {w : World} {bt : Nat} {a : Option Addr} {c n m1 m2 : Nat} {f1 f2 : Int → Option Int} (h : TreeW w bt a c n m1 m2 f1 f2) (k : Int) (hk : (f1 k).isSome = true) :
    Calls Tryd.prog 49 #[.pointer (some ⟨bt, 0, none⟩), .int .i64 k] w fun e w' => e = .returned (.bool true) ∧ w = w' := by rw [← hk]; exact has_any h k
theorem has_f {w : World} {bt : Nat} {a : Option Addr} {c n m1 m2 : Nat} {f1 f2 : Int → Option Int} (h : TreeW w bt a c n m1 m2 f1 f2) (k : Int) (hk : (f1 k).isSome = false) :
    Calls Tryd.prog 49 #[.pointer (some ⟨bt, 0, none⟩), .int .i64 k] w fun e w' => e = .returned (.bool false) ∧ w = w' := by rw [← hk]; exact has_any h k
set_option maxHeartbeats 1000000 in
theorem coded_any {w : World} {a : Option Addr} {c n : Nat} {l : List Nod} {φ : Phi} (hφ : Fz φ w) (s : SlV φ a c l) (hn : Hid (l.length = n)) (hm : n ≤ 9223372036854775807) {ac : Option Addr} {cc nc : Nat} {cs : List Int} (sc : SlV φ ac cc cs) (hnc : Hid (cs.length = nc)) (hmc : nc ≤ 9223372036854775807) :
    Calls Tryd.prog 30 #[.slice a n c, .slice ac nc cc] w (CodedPost l cs n a c w) := by
  go_enter Tryd.func30, Tryd.ntmps30
  go_wp2_with fail
  refine (treeOf_any hφ s hn hm).mono ?_
  rintro e w1 ⟨hb, ⟨h0, rfl⟩ | ⟨h0, hok, bt, m1, m2, rfl, ht⟩⟩
  · obtain ⟨q, hq⟩ : ∃ q, Hid (treeF l = q) := ⟨_, Lib.hid rfl⟩
    rw [hq.out] at h0 ⊢
    have hg : ((q : Int) != 0) = true := by simp [h0]
    have H0 := Lib.hid h0
    have HB := Lib.hid hb
    clear h0 hb
    go_wp2
    go_ret2
    have e : codedF l cs = q := by rw [codedF, hq.out, if_pos H0.out]
    exact ⟨HB.out, .inl ⟨by rw [e]; exact H0.out, by rw [e]; rfl⟩⟩
  · have H0 := Lib.hid h0
    have HB := Lib.hid hb
    have HO := Lib.hid hok
    have HT := Lib.hid ht
    clear h0 hb hok ht
    go_wp2
    go_loopw [20] (fun i wr => ∃ k : Nat, k ≤ nc ∧ i = .int .i64 k ∧ Hid (∀ i, i < k → miss5 l cs i = 0) ∧ wr = w1) (fun i _ => nc - (intOf i).toNat)
    case atStart => exact ⟨0, Nat.zero_le _, rfl, none_yet _, rfl⟩
    case round =>
      obtain ⟨k, hk, rfl, hz, rfl⟩ := hrel
      by_cases hlt : k < nc
      · obtain ⟨b, off, rfl, f⟩ := sc.intsD hnc hlt
        obtain ⟨hb, c1⟩ := f k hlt _ (hφ.below HB.out)
        clear f
        have hx : Hid (cs.getD k 0 = cs.getD k 0) := Lib.hid rfl
        have hm5 : Hid (miss5 l cs k = if (ix l (cs.getD k 0)).isSome = true then 0 else 5) := Lib.hid rfl
        generalize cs.getD k 0 = x at *
        by_cases hs : (ix l x).isSome = true
        · have HS := Lib.hid hs
          clear hs
          go_wp2_with fail
          refine (has_t HT.out x (by rw [atF_isSome]; exact HS.out)).mono ?_
          rintro e w' ⟨rfl, rfl⟩
          go_wp2
          go_roundw
          case rel => exact ⟨k + 1, by omega, by go_num, next_ok hz (by rw [hm5.out, if_pos HS.out]), trivial⟩
          case measure => simp [intOf]; omega
        · have HS := Lib.hid (Bool.not_eq_true _ ▸ hs : (ix l x).isSome = false)
          clear hs
          go_wp2_with fail
          refine (has_f HT.out x (by rw [atF_isSome]; exact HS.out)).mono ?_
          rintro e w' ⟨rfl, rfl⟩
          go_wp2
          go_ret2
          have e5 : miss5 l cs k = 5 := by rw [hm5.out, HS.out]; rfl
          have e : codedF l cs = 5 := by rw [codedF, if_neg (by simp [H0.out]), hnc.out, scan_stop hz.out hlt (by rw [e5]; decide), e5]
          exact ⟨HB.out, .inl ⟨by rw [e]; decide, by rw [e]; rfl⟩⟩
      · obtain rfl : k = nc := by omega
        clear hlt hk
        go_wp2
        go_ret2
        refine ⟨HB.out, .inr ⟨by rw [codedF, if_neg (by simp [H0.out]), hnc.out, scan_zero _ _ hz.out], HO.out, fun i hi => ?_, bt, m1, m2, rfl, HT.out⟩⟩
        have := hz.out i (by rw [← hnc.out]; exact hi)
        unfold miss5 at this
        cases hh : (ix l (cs.getD i 0)).isSome
        · rw [hh] at this; cases this
        · rfl
end Go.Proofs.YtapkkplndhbapaaDoor
