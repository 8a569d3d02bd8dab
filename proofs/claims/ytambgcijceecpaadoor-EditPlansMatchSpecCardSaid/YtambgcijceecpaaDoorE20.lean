/- The walks of needed's second closure, of IndexFunc and of ContainsFunc with it. Conditions: none. -/
import Derived.Test.YtambgcijceecpaaDoorEC
namespace Go.Proofs.YtambgcijceecpaaDoor
open Go.RowKit
set_option linter.unusedVariables false
theorem needed2_any {w : World} {φ : Phi} (hφ : Fz φ w) {b : Nat} {ac : Option Addr} {cc nc : Nat} {cs : List Int} (hk : φ b = some (.cells #[.slice ac nc cc] 26)) (sc : SlV φ ac cc cs) (hnc : Hid (cs.length = nc)) {j : Nat} (hj : j < nc) {o : Bool} (ho : decide (cs.getD j 0 = 1) = o) :
    Calls Tryd.prog 75 #[.int .i64 j, .pointer (some ⟨b, 0, none⟩)] w (fun e w' => e = .returned (.bool o) ∧ w' = w) := by
  have hb : Blk w b #[.slice ac nc cc] 26 := hφ _ _ hk
  have p0 : w.cell? ⟨b, 0, none⟩ = some (.slice ac nc cc) := hb.cell 0
  obtain ⟨b1, o1, rfl, f1⟩ := sc.intsD hnc hj
  have d1 := (f1 j hj w hφ).2
  clear f1
  generalize cs.getD j 0 = x at *
  have hc := sc.capn
  have hm := sc.capm
  rw [hnc.out] at hc
  unfold maxLen at hm
  go_enter Tryd.func75, Tryd.ntmps75
  go_wp2
  go_ret
  exact ⟨ret_bool (by rw [← ho]; rfl), rfl⟩
set_option maxHeartbeats 1000000 in
theorem IndexFunc_any {w : World} {φ : Phi} (hφ : Fz φ w) {b : Nat} {ac : Option Addr} {cc nc : Nat} {cs : List Int} (hk : φ b = some (.cells #[.slice ac nc cc] 26)) (sc : SlV φ ac cc cs) (hnc : Hid (cs.length = nc)) {al : Option Addr} {cl nl : Nat} {l : List Int} (sl : SlV φ al cl l) (hnl : Hid (l.length = nl)) (hl : Hid (∀ k ∈ l, 0 ≤ k ∧ k < (nc : Int))) {o : Bool} (ho : Hid (l.any (fun k => decide (cs.getD k.toNat 0 = 1)) = o)) :
    Calls Tryd.prog 92 #[.slice al nl cl, .func (.func 75) #[] #[.pointer (some ⟨b, 0, none⟩)]] w (fun e w' => ∃ v : Int, e = .returned (.int .i64 v) ∧ decide (0 ≤ v) = o ∧ w' = w) := by
  have hc := sl.capn
  have hm := sl.capm
  rw [hnl.out] at hc
  unfold maxLen at hm
  go_enter Tryd.func92, Tryd.ntmps92
  go_wp2
  go_loop [8] (fun i => ∃ k : Nat, k ≤ nl ∧ i = .int .i64 k ∧ Hid (∀ i, i < k → decide (cs.getD (l.getD i 0).toNat 0 = 1) = false)) (fun i => nl - (intOf i).toNat)
  case atStart => exact ⟨0, Nat.zero_le _, rfl, Lib.hid (fun i hi => by omega)⟩
  case round =>
    obtain ⟨k, hk2, rfl, hno⟩ := hrel
    by_cases hlt : k < nl
    · obtain ⟨b1, o1, rfl, f1⟩ := sl.intsD hnl hlt
      have d1 := (f1 k hlt w hφ).2
      clear f1
      have hr := hl.out (l.getD k 0) (by rw [getD_elem0 _ _ _ (by rw [hnl.out]; exact hlt)]; exact List.getElem_mem _)
      have HY : Hid (decide (cs.getD (l.getD k 0).toNat 0 = 1) = true → o = true) := Lib.hid (fun h => by
        rw [← ho.out, List.any_eq_true]
        exact ⟨l.getD k 0, by rw [getD_elem0 _ _ _ (by rw [hnl.out]; exact hlt)]; exact List.getElem_mem _, h⟩)
      have HN : Hid (decide (cs.getD (l.getD k 0).toNat 0 = 1) = false → ∀ i, i < k + 1 → decide (cs.getD (l.getD i 0).toNat 0 = 1) = false) := Lib.hid (fun h i hi => by
        by_cases e : i = k
        · subst e; exact h
        · exact hno.out i (by omega))
      generalize l.getD k 0 = y at *
      obtain ⟨j, rfl⟩ : ∃ j : Nat, y = j := ⟨y.toNat, by omega⟩
      have hjn : j < nc := by omega
      obtain ⟨q, hq⟩ : ∃ q, Hid (decide (cs.getD j 0 = 1) = q) := ⟨_, Lib.hid rfl⟩
      have ej : ((j : Int)).toNat = j := by omega
      rw [ej, hq.out] at HY HN
      clear ej hr
      cases q with
      | true =>
        have H := Lib.hid (HY.out rfl)
        go_wp2_with (go_at_call 75; refine (needed2_any hφ hk sc hnc hjn hq.out).mono ?_; rintro e w' ⟨rfl, rfl⟩)
        go_ret
        exact ⟨k, rfl, by rw [H.out]; simp, rfl⟩
      | false =>
        have H := Lib.hid (HN.out rfl)
        go_wp2_with (go_at_call 75; refine (needed2_any hφ hk sc hnc hjn hq.out).mono ?_; rintro e w' ⟨rfl, rfl⟩)
        go_round
        case rel => exact ⟨k + 1, by omega, by go_num, H⟩
        case measure => simp [intOf]; omega
    · obtain rfl : k = nl := by omega
      have H : o = false := by
        rw [← ho.out, List.any_eq_false]
        intro x hx
        obtain ⟨i, hi, rfl⟩ := List.mem_iff_getElem.1 hx
        have := hno.out i (by rw [← hnl.out]; exact hi)
        rw [getD_elem0 _ _ _ hi] at this
        rw [this]; simp
      have H := Lib.hid H
      go_wp2
      go_ret
      obtain rfl := H.out
      exact ⟨-1, rfl, by decide, rfl⟩
theorem ContainsFunc_any {w : World} {φ : Phi} (hφ : Fz φ w) {b : Nat} {ac : Option Addr} {cc nc : Nat} {cs : List Int} (hk : φ b = some (.cells #[.slice ac nc cc] 26)) (sc : SlV φ ac cc cs) (hnc : Hid (cs.length = nc)) {al : Option Addr} {cl nl : Nat} {l : List Int} (sl : SlV φ al cl l) (hnl : Hid (l.length = nl)) (hl : Hid (∀ k ∈ l, 0 ≤ k ∧ k < (nc : Int))) {o : Bool} (ho : Hid (l.any (fun k => decide (cs.getD k.toNat 0 = 1)) = o)) :
    Calls Tryd.prog 74 #[.slice al nl cl, .func (.func 75) #[] #[.pointer (some ⟨b, 0, none⟩)]] w (fun e w' => e = .returned (.bool o) ∧ w' = w) := by
  go_enter Tryd.func74, Tryd.ntmps74
  go_wp2_with fail
  refine (IndexFunc_any hφ hk sc hnc sl hnl hl ho).mono ?_
  rintro e w' ⟨v, rfl, hv, rfl⟩
  have HV := Lib.hid hv
  clear hv
  go_wp2
  go_ret
  exact ⟨ret_bool (by rw [← HV.out]), rfl⟩
end Go.Proofs.YtambgcijceecpaaDoor
