/- The walks of slices.Compare, slices.Clone, apart, the closure of first, first. Conditions: none beyond what the claim form gives. -/
import Derived.Test.YtambgcijceecpaaDoorE10
import Derived.Test.YtambgcijceecpaaDoorE11
namespace Go.Proofs.YtambgcijceecpaaDoor
open Go.RowKit
set_option linter.unusedVariables false

def cmpF (a b : Int) : Int := if a < b then -1 else if b < a then 1 else 0
theorem isNaN_any (x : Int) (w : World) : Calls Tryd.prog 104 #[.int .i64 x] w (fun e w' => e = .returned (.bool false) ∧ w = w') := by
  go_enter Tryd.func104, Tryd.ntmps104
  go_wp2
  go_ret
  exact ⟨ret_bool (by simp), rfl⟩
theorem cmp_any (a b : Int) (w : World) {q : Int} (hq : Hid (cmpF a b = q)) : Calls Tryd.prog 93 #[.int .i64 a, .int .i64 b] w (fun e w' => e = .returned (.int .i64 q) ∧ w = w') := by
  by_cases h1 : a < b
  · go_enter Tryd.func93, Tryd.ntmps93
    go_wp2_with (go_at_call 104; refine (isNaN_any _ _).mono ?_; rintro e w' ⟨rfl, rfl⟩)
    go_ret
    exact ⟨ret_int (by rw [← hq.out, cmpF, if_pos h1]), rfl⟩
  · by_cases h2 : b < a
    · go_enter Tryd.func93, Tryd.ntmps93
      go_wp2_with (go_at_call 104; refine (isNaN_any _ _).mono ?_; rintro e w' ⟨rfl, rfl⟩)
      go_ret
      exact ⟨ret_int (by rw [← hq.out, cmpF, if_neg (by omega), if_pos h2]), rfl⟩
    · go_enter Tryd.func93, Tryd.ntmps93
      go_wp2_with (go_at_call 104; refine (isNaN_any _ _).mono ?_; rintro e w' ⟨rfl, rfl⟩)
      go_ret
      exact ⟨ret_int (by rw [← hq.out, cmpF, if_neg (by omega), if_neg (by omega)]), rfl⟩
theorem cmpI_step {xs ys : List Int} {k n1 n2 : Nat} (h1 : xs.length = n1) (h2 : ys.length = n2) (k1 : k < n1) (k2 : k < n2) : cmpI (xs.drop k) (ys.drop k) = if cmpF (xs.getD k 0) (ys.getD k 0) ≠ 0 then cmpF (xs.getD k 0) (ys.getD k 0) else cmpI (xs.drop (k + 1)) (ys.drop (k + 1)) := by
  rw [drop_getD (d := 0) (by omega : k < xs.length), drop_getD (d := 0) (by omega : k < ys.length), cmpI, cmpF]
  by_cases a : xs.getD k 0 < ys.getD k 0
  · rw [if_pos a, if_pos a]; rfl
  · by_cases b : ys.getD k 0 < xs.getD k 0
    · rw [if_neg a, if_neg a, if_pos b, if_pos b]; rfl
    · rw [if_neg a, if_neg a, if_neg b, if_neg b]; rfl
theorem cmpI_end1 {xs ys : List Int} {k n1 n2 : Nat} (h1 : xs.length = n1) (h2 : ys.length = n2) (k1 : k < n1) (k2 : n2 ≤ k) : cmpI (xs.drop k) (ys.drop k) = 1 := by
  rw [drop_getD (d := 0) (by omega : k < xs.length), List.drop_eq_nil_of_le (by omega : ys.length ≤ k)]; rfl
theorem cmpI_end2 {xs ys : List Int} {k n2 : Nat} (h1 : xs.length = k) (h2 : ys.length = n2) : cmpI (xs.drop k) (ys.drop k) = if k < n2 then -1 else 0 := by
  rw [List.drop_eq_nil_of_le (by omega : xs.length ≤ k)]
  by_cases h : k < n2
  · rw [drop_getD (d := 0) (by omega : k < ys.length), if_pos h]; rfl
  · rw [List.drop_eq_nil_of_le (by omega : ys.length ≤ k), if_neg h]; rfl
set_option maxHeartbeats 1000000 in
theorem Compare_any (n1 : Nat) (a1 : Option Addr) (c1 : Nat) (xs : List Int) (n2 : Nat) (a2 : Option Addr) (c2 : Nat) (ys : List Int) (w : World) (φ ψ : Phi) (hφ : Fz φ w) (hψ : Fz ψ w) (s1 : SlV φ a1 c1 xs) (hn1 : Hid (xs.length = n1)) (hm1 : n1 ≤ 9223372036854775807) (s2 : SlV ψ a2 c2 ys) (hn2 : Hid (ys.length = n2)) (hm2 : n2 ≤ 9223372036854775807) {q : Int} (hq : Hid (cmpI xs ys = q)) :
    Calls Tryd.prog 79 #[.slice a1 n1 c1, .slice a2 n2 c2] w (fun e w' => e = .returned (.int .i64 q) ∧ w = w') := by
  go_enter Tryd.func79, Tryd.ntmps79
  go_wp2
  go_loop [11] (fun i => ∃ k : Nat, k ≤ n1 ∧ i = .int .i64 k ∧ Hid (cmpI (xs.drop k) (ys.drop k) = q)) (fun i => n1 - (intOf i).toNat)
  case atStart => exact ⟨0, Nat.zero_le _, rfl, by rw [List.drop_zero, List.drop_zero]; exact hq⟩
  case round =>
    clear hq
    obtain ⟨k, hk, rfl, hq⟩ := hrel
    by_cases hlt : k < n1
    · obtain ⟨b1, o1, rfl, f1⟩ := s1.intsD hn1 hlt
      have d1 := (f1 k hlt w hφ).2
      clear f1
      by_cases hlt2 : k < n2
      · obtain ⟨b2, o2, rfl, f2⟩ := s2.intsD hn2 hlt2
        have d2 := (f2 k hlt2 w hψ).2
        clear f2
        have hst := Lib.hid (hq.out.symm.trans (cmpI_step hn1.out hn2.out hlt hlt2))
        generalize xs.getD k 0 = x at *
        generalize ys.getD k 0 = y at *
        obtain ⟨c, hc⟩ : ∃ c, Hid (cmpF x y = c) := ⟨_, Lib.hid rfl⟩
        by_cases hc0 : c = 0
        · subst hc0
          go_wp2_with (go_at_call 93; refine (cmp_any _ _ _ hc).mono ?_; rintro e w' ⟨rfl, rfl⟩)
          go_round
          case rel => exact ⟨k + 1, by omega, by go_num, Lib.hid (by rw [hst.out, hc.out]; rfl)⟩
          case measure => simp [intOf]; omega
        · have hb : (c != 0) = true := by simp [hc0]
          have HC := Lib.hid hc0
          clear hc0
          go_wp2_with (go_at_call 93; refine (cmp_any _ _ _ hc).mono ?_; rintro e w' ⟨rfl, rfl⟩)
          go_ret
          exact ⟨ret_int (by rw [hst.out, hc.out, if_pos HC.out]), rfl⟩
      · have hst := Lib.hid (hq.out.symm.trans (cmpI_end1 hn1.out hn2.out hlt (by omega)))
        go_wp2
        go_ret
        exact ⟨ret_int hst.out.symm, rfl⟩
    · obtain rfl : k = n1 := by omega
      have hst := Lib.hid (hq.out.symm.trans (cmpI_end2 hn1.out hn2.out))
      by_cases h2 : k < n2
      · go_wp2
        go_ret
        exact ⟨ret_int (by rw [hst.out, if_pos h2]), rfl⟩
      · go_wp2
        go_ret
        exact ⟨ret_int (by rw [hst.out, if_neg h2]), rfl⟩
set_option maxHeartbeats 400000 in
theorem Clone_any {w : World} {ac : Option Addr} {cc nc : Nat} {cs : List Int} {φ : Phi} (hφ : Fz φ w) (sc : SlV φ ac cc cs) (hnc : Hid (cs.length = nc)) (hmc : nc ≤ 1000000) :
    Calls Tryd.prog 69 #[.slice ac nc cc] w (OwnPost cs φ w) := by
  cases ac with
  | none =>
    have h0 : cs = [] := List.eq_nil_of_length_eq_zero (by have := sc.capn; have := sc.nil rfl; omega)
    subst h0
    have hn0 : nc = 0 := hnc.out.symm
    subst hn0
    have hcc := sc.nil rfl
    subst hcc
    have he := fun w => Lib.run_eql_slice_nil (P := Tryd.prog) w 26 3 none 0 0 0 0 Tryd.underlying26
    go_enter Tryd.func69, Tryd.ntmps69
    go_wp2
    go_ret
    exact ⟨none, 0, rfl, Inv.start hφ, Own.nil _ _ _ _⟩
  | some ad =>
    have he := fun w => Lib.run_eql_slice_nil (P := Tryd.prog) w 26 3 (some ad) nc cc 0 0 Tryd.underlying26
    have hi0 := Inv.start hφ
    have hi2 := hi0.alloc (.cells #[] 3)
    have ho2 := Own.lit0 (α := Int) (E := 3) hi0
    go_enter Tryd.func69, Tryd.ntmps69
    go_wp2_with (at_builtin; refine wpList_apps (α := Int) rfl _ _ 26 rfl slI hi2 _ 0 [] ho2 (some ad) cc cs sc rfl (by rw [hnc.out]; rfl) (by rw [hnc.out]; simp; omega) ?_; intro a2 cap2 w2 hi3 hown3 hgr)
    go_ret
    exact ⟨a2, cap2, by simp, hi3, hown3⟩
def ApPost (fs : List Fld) (xs : List Int) (φ : Phi) (w : World) (e : Ending) (w' : World) : Prop :=
  ∃ a cap, e = .returned (.tuple #[.slice a xs.length cap, .int .i64 (wSum fs xs)]) ∧ Inv w.heap.size w φ φ w' ∧ Own w.heap.size φ w' 3 a cap xs
set_option maxHeartbeats 1000000 in
theorem apart_any
  {φ : Phi} {br : Nat} {fs : List Fld} {es : List Edt} {n m : Nat} {a : Option Addr} {cap : Nat} {ae : Option Addr} {ce : Nat} {ab : Option Addr} {cb : Nat} (R : RulV φ br fs es n m a cap ae ce ab cb)
    (w : World) (hφ : Fz φ w) (a1 : Option Addr) (c1 : Nat) (xs : List Int) (s1 : SlV φ a1 c1 xs) (hn1 : Hid (xs.length = n)) (a2 : Option Addr) (c2 : Nat) (ys : List Int) (s2 : SlV φ a2 c2 ys) (hn2 : Hid (ys.length = n)) :
    Calls Tryd.prog 78 #[.pointer (some ⟨br, 0, none⟩), .slice a1 n c1, .slice a2 n c2] w (ApPost fs (apL xs ys n) φ w) := by
  have hn12 := R.ok.pos
  have hfl := Lib.hid R.ok.len
  have hbk := Lib.hid (fun (wr : World) (h : Fz φ wr) => (R.blk h).cell 0)
  have hwt := Lib.hid (fun (k : Nat) (hk : k < n) => wts R.ok (k := (k : Int)) (by omega) (by omega))
  have hbd := Lib.hid (fun (k : Nat) (hk : k ≤ n) => wSum_bd (fs := fs) (l := apL xs ys k) (fun j hj => by
    obtain ⟨i, rfl, h1, _⟩ := mem_apL.1 hj
    have := wts R.ok (k := (i : Int)) (by omega) (by omega)
    omega))
  have hSt : Hid (Inv w.heap.size w φ φ w ∧ Own w.heap.size φ w 3 none 0 (apL xs ys 0)) := Lib.hid ⟨Inv.start hφ, Own.nil _ _ _ _⟩
  go_enter Tryd.func78, Tryd.ntmps78
  go_wp2
  go_loopw [6, 7, 11] (fun sl ww i wr => ∃ (k : Nat) (ao : Option Addr) (co : Nat), k ≤ n ∧ sl = .slice ao (apL xs ys k).length co ∧ ww = .int .i64 (wSum fs (apL xs ys k)) ∧ i = .int .i64 k ∧ Hid (Inv w.heap.size w φ φ wr ∧ Own w.heap.size φ wr 3 ao co (apL xs ys k))) (fun _ _ i _ => n - (intOf i).toNat)
  case atStart => exact ⟨0, none, 0, Nat.zero_le _, rfl, rfl, rfl, hSt⟩
  case round =>
    clear hSt
    obtain ⟨k, ao, co, hk, rfl, rfl, rfl, hS⟩ := hrel
    by_cases hlt : k < n
    · obtain ⟨b1, o1, rfl, f1⟩ := s1.intsD hn1 hlt
      have d1 := (f1 k hlt wr hS.out.1.fz).2
      obtain ⟨b2, o2, rfl, f2⟩ := s2.intsD hn2 hlt
      have d2 := (f2 k hlt wr hS.out.1.fz).2
      have hl := apL_len xs ys k
      have hb := hbd.out k hk
      have HT := Lib.hid (fun h : xs.getD k 0 ≠ ys.getD k 0 => apL_t h)
      have HF := Lib.hid (fun h : xs.getD k 0 = ys.getD k 0 => apL_f h)
      clear f1 f2
      generalize xs.getD k 0 = x at *
      generalize ys.getD k 0 = y at *
      by_cases he : x = y
      · have hne : (x != y) = false := by simp [he]
        have H2 := Lib.hid (HF.out he)
        clear he
        go_wp2
        go_quiet (fail)
        go_wp2
        go_roundw
        case rel => exact ⟨k + 1, ao, co, by omega, by rw [H2.out], by rw [H2.out], by go_num, by rw [H2.out]; exact Lib.hid ⟨hS.out.1.drewN _, hS.out.2.drewN _⟩⟩
        case measure => simp [intOf]; omega
      · have hne : (x != y) = true := by simp [he]
        have H2 := Lib.hid (HT.out he)
        clear he
        have hw1 := hwt.out k hlt
        have hsn := Lib.hid (wSum_snoc fs (apL xs ys k) (k : Int))
        obtain ⟨b3, o3, ha3, f3⟩ := R.fv.fldD hfl hlt
        obtain ⟨a4, c4, s4, f4⟩ := f3 k hlt
        have hwk : Hid (wOf fs (k : Int) = (fs.getD k fld0).2.2) := Lib.hid rfl
        rw [hwk.out] at hw1
        subst ha3
        clear f3
        have hF4 := Lib.hid f4
        clear f4
        generalize (fs.getD k fld0).2.2 = wt at *
        have hlk := Lib.hid hl
        generalize wSum fs (apL xs ys k) = sw at *
        have hin := Lib.hid (hS.out.1)
        have hon := Lib.hid (hS.out.2)
        go_wp2
        go_quiet (fail)
        go_wp2_with (at_builtin; refine wpList_app1 (α := Int) rfl _ _ 26 rfl slI (hin.out.drewN _) ao co _ (hon.out.drewN _) _ _ (k : Int) rfl rfl 1 rfl (by omega) ?_; intro a5 c5 w5 hi5 ho5 hg5; have p0 := hbk.out w5 hi5.fz; have p1 := (hF4.out w5 hi5.fz).2.2.2)
        go_roundw
        case rel => exact ⟨k + 1, a5, c5, by omega, by rw [H2.out]; simp, by rw [H2.out, hsn.out, hwk.out], by go_num, by rw [H2.out]; exact Lib.hid ⟨hi5, ho5⟩⟩
        case measure => simp [intOf]; omega
    · obtain rfl : k = n := by omega
      go_wp2
      go_ret2
      exact ⟨ao, co, rfl, hS.out.1, hS.out.2⟩
end Go.Proofs.YtambgcijceecpaaDoor
