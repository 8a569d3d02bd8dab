/- The reference's natural numbers: limbs as ints. Words, and the walks of trim, small and order. Conditions: none beyond what the claim form gives. -/
import Derived.Test.YtmlpjffnmkndoaaGreatDoorNA
namespace Go.Proofs.YtmlpjffnmkndoaaGreatDoor
open Go.RowKit
set_option linter.unusedVariables false
set_option linter.unusedSimpArgs false
/-- A natural number in memory: a slice of limbs as ints. -/
instance repNatI : Rep Nat where
 size := 1
 rep := fun _ x cs => cs = [.int .i64 (x : Int)]
 len := by intro _ _ _ h; subst h; rfl
 mono := fun _ h => h
 one := by intro _ _ _ h u hu; subst h; simp at hu; subst hu; rfl
theorem SlV.natI {φ : Phi} {a : Option Addr} {cap : Nat} {xs : List Nat} (h : SlV φ a cap xs) {k n : Nat} (hn : Hid (xs.length = n)) (hk : k < n) :
  ∃ b off, a = some ⟨b, off, none⟩ ∧ ∀ k, k < n → ∀ w, Fz φ w → b < w.heap.size ∧ w.cell? ⟨b, off + k, none⟩ = some (.int .i64 ((xs.getD k 0 : Nat) : Int)) := by
 obtain ⟨b, off, ha, hc⟩ := h.cellsD 0 hn hk
 refine ⟨b, off, ha, fun k hk w hw => ?_⟩
 obtain ⟨cs, hr, hj⟩ := hc k hk
 cases hr
 have j0 := hj 0 (by simp)
 simp [Rep.size] at j0
 exact ⟨hw.lt j0, hw.cell j0⟩
theorem Own.natI {B : Nat} {φ : Phi} {w : World} {E : TypeId} {a : Option Addr} {cap : Nat} {xs : List Nat} (h : Own B φ w E a cap xs) {k n : Nat} (hn : Hid (xs.length = n)) (hk : k < n) :
  ∃ g, a = some ⟨g, 0, none⟩ ∧ g < w.heap.size ∧ ∀ k, k < n → w.cell? ⟨g, k, none⟩ = some (.int .i64 ((xs.getD k 0 : Nat) : Int)) ∧ w.frozen? ⟨g, k, none⟩ = false ∧
   ∀ (y : Nat) w0 φ0, Inv B w0 φ0 φ w → Own B φ (w.setCell ⟨g, k, none⟩ (.int .i64 (y : Int))) E a cap (xs.set k y) ∧ Inv B w0 φ0 φ (w.setCell ⟨g, k, none⟩ (.int .i64 (y : Int))) := by
 obtain ⟨g, rfl, _, hg, _, hf, hc⟩ := h.elem (k := k) (by rw [hn.out]; exact hk)
 refine ⟨g, rfl, hg, fun k hk => ?_⟩
 have hk' : k < xs.length := by rw [hn.out]; exact hk
 obtain ⟨cs, hcs, hj⟩ := hc k hk'
 have hcs' : cs = [.int .i64 (xs[k] : Int)] := hcs
 subst hcs'
 have h0 := hj 0 (by simp)
 simp [Rep.size] at h0
 refine ⟨by rw [h0, getD_elem0 _ _ _ hk'], hf k, fun y w0 φ0 hi => ?_⟩
 have := h.setCell hi hk' (y := y) (j := 0) (u := .int .i64 (y : Int)) hj rfl (by simp) rfl
 simpa [Rep.size] using this
theorem SlV.trimI {φ : Phi} {a : Option Addr} {c : Nat} {xs : List Nat} (s : SlV φ a c xs) (h : Lim xs) {m : Nat} (hm : LV xs = m) : SlV φ a c (limbs m) := by
 subst hm
 obtain ⟨k, _, e⟩ := trim_take h
 rw [e]; exact s.take k
theorem slNatI : SliceTy Tryz.prog 34 3 (.int .i64 0) (Rep.size Nat) 8 := ⟨Tryz.underlying34, by kernel_rfl, rfl, by decide, by decide⟩
def NatI (m : Nat) (φ : Phi) (w : World) (e : Ending) (w' : World) : Prop :=
 ∃ a cap φ', e = .returned (.slice a (limbs m).length cap) ∧ Inv w.heap.size w φ φ' w' ∧ SlV φ' a cap (limbs m)
def NatVI (m : Nat) (v : Value) (φ : Phi) (w : World) (e : Ending) (w' : World) : Prop :=
 ∃ a cap φ', e = .returned (.tuple #[.slice a (limbs m).length cap, v]) ∧ Inv w.heap.size w φ φ' w' ∧ SlV φ' a cap (limbs m)
set_option maxHeartbeats 1000000 in
theorem Rtrim_any {n : Nat} {a : Option Addr} {c : Nat} {xs : List Nat} {w : World} {φ : Phi} (hφ : Fz φ w) (s : SlV φ a c xs) (hn : Hid (xs.length = n)) (hm : n ≤ 9000000000000000000) (hl : Hid (Lim xs)) {q : Nat} (hq : Hid ((limbs (LV xs)).length = q)) :
  Calls Tryz.prog 102 #[.slice a n c] w (fun e w' => e = .returned (.slice a q c) ∧ w = w') := by
 have hcap : n ≤ c := by rw [← hn.out]; exact s.capn
 go_enter Tryz.func102, Tryz.ntmps102
 go_wp2
 go_loop [3] (fun v => ∃ k : Nat, k ≤ n ∧ v = .int .i64 (k : Int) ∧ Hid (∀ i, k ≤ i → i < n → xs.getD i 0 = 0)) (fun v => (intOf v).toNat)
 case atStart => exact ⟨n, Nat.le_refl _, rfl, Lib.hid (fun i h1 h2 => by omega)⟩
 case round =>
  obtain ⟨k, hk, rfl, hz⟩ := hrel
  by_cases h0 : k = 0
  ·have H0 := Lib.hid h0
   have hk0 : ¬ (0 : Int) < (k : Int) := by omega
   clear h0
   go_wp2
   go_ret
   have := trim_eq hl.out (k := k) (by rw [hn.out]; exact hk) (by rw [hn.out]; exact hz.out) (.inl H0.out)
   exact ⟨by rw [← hq.out, ← this, List.length_take, hn.out, Nat.min_eq_left hk]; rfl, rfl⟩
  ·obtain ⟨b, off, rfl, f⟩ := s.natI hn (k := k - 1) (by omega)
   obtain ⟨hb, c1⟩ := f (k - 1) (by omega) w hφ
   obtain ⟨x, hx⟩ : ∃ x, Hid (xs.getD (k - 1) 0 = x) := ⟨_, Lib.hid rfl⟩
   rw [hx.out] at c1
   have hk0 : (0 : Int) < (k : Int) := by omega
   have hto : ((k : Int) - 1).toNat = k - 1 := by omega
   have hix : 0 ≤ (k : Int) - 1 := by omega
   have hix2 : (k : Int) - 1 < n := by omega
   have hlt : Hid (∀ i, k - 1 ≤ i → i < n → x = 0 → xs.getD i 0 = 0) := Lib.hid (fun i h1 h2 h3 => by
    by_cases e : i = k - 1
    ·subst e; rw [hx.out, h3]
    ·exact hz.out i (by omega) h2)
   clear f
   by_cases hx0 : x = 0
   ·subst hx0
    go_wp2
    go_round
    case rel => exact ⟨k - 1, by omega, by go_num, Lib.hid (fun i h1 h2 => hlt.out i h1 h2 rfl)⟩
    case measure => simp [intOf]; omega
   ·have hne : ((x : Int) == 0) = false := by simp [hx0]
    have HX0 := Lib.hid hx0
    clear hx0
    go_wp2
    go_ret
    have := trim_eq hl.out (k := k) (by rw [hn.out]; exact hk) (by rw [hn.out]; exact hz.out) (.inr (by rw [hx.out]; exact HX0.out))
    exact ⟨by rw [← hq.out, ← this, List.length_take, hn.out, Nat.min_eq_left hk]; rfl, rfl⟩
set_option maxHeartbeats 1000000 in
theorem Rsmall_any (m : Nat) (hm : m < 9223372036854775808) (w : World) (φ : Phi) (hφ : Fz φ w) :
  Calls Tryz.prog 80 #[.int .i64 (m : Int)] w (NatI m φ w) := by
 have hS0 : Hid (OwSt w φ 3 none 0 ([] : List Nat) w) := Lib.hid ⟨Inv.start hφ, Own.nil _ _ _ _⟩
 have hl3 : Hid ((limbs m).length ≤ 3) := Lib.hid (limbs_le (by
  have : lb ^ 3 = 1000000000000000000000000000 := by decide
  omega))
 go_enter Tryz.func80, Tryz.ntmps80
 go_wp2
 go_loopw [0, 3] (fun v o wr => ∃ (r : Nat) (ao : Option Addr) (co : Nat) (ds : List Nat), r < 9223372036854775808 ∧ v = .int .i64 (r : Int) ∧ o = .slice ao ds.length co ∧ Hid (limbs m = ds ++ limbs r) ∧ Hid (OwSt w φ 3 ao co ds wr)) (fun v _ _ => (intOf v).toNat)
 case atStart => exact ⟨m, none, 0, [], hm, rfl, rfl, Lib.hid rfl, hS0⟩
 case round =>
  clear hS0
  obtain ⟨r, ao, co, ds, hr, rfl, rfl, hd, hS⟩ := hrel
  by_cases h0 : r = 0
  ·subst h0
   have e : Hid (limbs m = ds) := Lib.hid (by rw [hd.out, limbs_zero, List.append_nil])
   go_wp2
   go_ret
   obtain ⟨φ', _, hi, hs, _⟩ := hS.out.own.release hS.out.inv
   refine ⟨ao, co, φ', ?_, hi, ?_⟩
   ·rw [e.out]; rfl
   ·rw [e.out]; exact hs
  ·have hr0 : (0 : Int) < (r : Int) := by omega
   have hd2 : Hid (limbs m = (ds ++ [r % lb]) ++ limbs (r / lb)) := Lib.hid (by rw [hd.out, limbs_pos h0]; simp)
   have hdl : ds.length ≤ 3 := by
    have := hl3.out
    rw [hd.out, List.length_append] at this
    omega
   have hin := Lib.hid hS.out.inv
   have hon := Lib.hid hS.out.own
   have em : ((r % lb : Nat) : Int) = (r : Int) % 1000000000 := rfl
   have ed : ((r / lb : Nat) : Int) = (r : Int) / 1000000000 := rfl
   have EM := Lib.hid em
   have ED := Lib.hid ed
   have hlt : r / lb < r := Nat.div_lt_self (by omega) lb_gt
   clear em ed
   go_wp2_with (at_builtin; (refine wpList_app1F (α := Nat) rfl _ _ 34 rfl slNatI hin.out ao co _ hon.out _ _ (r % lb) (by show [Value.int .i64 ((r : Int) % 1000000000)] = [Value.int .i64 ((r % lb : Nat) : Int)]; rw [EM.out]) rfl 1 rfl (by omega) ?_; intro a8 c8 w8 hi8 ho8 hg8 hf8))
   go_roundw
   case rel => exact ⟨r / lb, a8, c8, ds ++ [r % lb], by omega, by rw [ED.out], by simp, hd2, Lib.hid ⟨hi8, ho8⟩⟩
   case measure =>
    show (intOf (.int .i64 ((r : Int) / 1000000000))).toNat < (intOf (.int .i64 (r : Int))).toNat
    rw [← ED.out]
    simp only [intOf]
    omega
set_option maxHeartbeats 1000000 in
theorem Rorder_any {m n k1 k2 : Nat} {a1 a2 : Option Addr} {c1 c2 : Nat} {w : World} {φ : Phi} (hφ : Fz φ w) (s1 : SlV φ a1 c1 (limbs m)) (s2 : SlV φ a2 c2 (limbs n)) (h1 : Hid ((limbs m).length = k1)) (h2 : Hid ((limbs n).length = k2)) (hk1 : k1 ≤ 4000000000) (hk2 : k2 ≤ 4000000000) {q : Int} (hq : Hid (cmpN m n = q)) :
  Calls Tryz.prog 84 #[.slice a1 k1 c1, .slice a2 k2 c2] w (fun e w' => e = .returned (.int .i64 q) ∧ Below w.heap.size w w') := by
 go_enter Tryz.func84, Tryz.ntmps84
 by_cases hl : k1 = k2
 case neg =>
  have hne : ((k1 : Int) == (k2 : Int)) = false := by simp; omega
  by_cases hlt : k1 < k2
  ·have e : Hid (q = -1) := Lib.hid (by
    have := cmp_len (m := m) (n := n) (by rw [h1.out, h2.out]; exact hlt)
    rw [← hq.out, cmpN, if_pos this])
   go_wp2
   go_ret
   exact ⟨ret_int (by rw [e.out]), Below.refl _ _⟩
  ·have e : Hid (q = 1) := Lib.hid (by
    have := cmp_len (m := n) (n := m) (by rw [h1.out, h2.out]; omega)
    rw [← hq.out, cmpN, if_neg (by omega), if_pos this])
   go_wp2
   go_ret
   exact ⟨ret_int (by rw [e.out]), Below.refl _ _⟩
 subst hl
 have heq0 : ((k1 : Int) == (k1 : Int)) = true := by simp
 have hLx := Lib.hid (limbs_lim m)
 have hLy := Lib.hid (limbs_lim n)
 have hcmp := Lib.hid (fun k hk hz h => cmp_at (xs := limbs m) (ys := limbs n) (limbs_lim m) (by rw [h1.out, h2.out]) (k := k) hk hz h)
 have hcmp2 := Lib.hid (fun k hk hz h => cmp_at (xs := limbs n) (ys := limbs m) (limbs_lim n) (by rw [h1.out, h2.out]) (k := k) hk hz h)
 have heq : Hid ((∀ i, i < k1 → (limbs m).getD i 0 = (limbs n).getD i 0) → q = 0) := Lib.hid (fun h => by
  have e : limbs m = limbs n := by
   apply List.ext_getElem (by rw [h1.out, h2.out])
   intro i h3 h4
   rw [← getD_elem0 0 _ _ h3, ← getD_elem0 0 _ _ h4]
   exact h i (by rw [← h1.out]; exact h3)
  have e2 : m = n := by rw [← LV_limbs m, e, LV_limbs]
  rw [← hq.out, cmpN, e2, if_neg (by omega), if_neg (by omega)])
 rw [LV_limbs, LV_limbs] at hcmp hcmp2
 generalize limbs m = X at *
 generalize limbs n = Y at *
 go_wp2
 go_loopw [5] (fun v wr => ∃ j : Nat, j ≤ k1 ∧ v = .int .i64 ((j : Int) - 1) ∧ Hid (∀ i, j ≤ i → i < k1 → X.getD i 0 = Y.getD i 0) ∧ Hid (Below w.heap.size w wr)) (fun v _ => (intOf v + 1).toNat)
 case atStart => exact ⟨k1, Nat.le_refl _, rfl, Lib.hid (fun i h3 h4 => by omega), Lib.hid (Below.refl _ _)⟩
 case round =>
  obtain ⟨j, hj, rfl, hz, hB⟩ := hrel
  by_cases hj0 : j = 0
  ·have e0 : q = 0 := heq.out (fun i hi => hz.out i (by omega) hi)
   subst e0
   have hneg : ¬ (0 : Int) ≤ (j : Int) - 1 := by omega
   go_wp2
   go_ret
   exact ⟨rfl, hB.out⟩
  ·obtain ⟨b1, o1, rfl, f1⟩ := s1.natI h1 (k := j - 1) (by omega)
   obtain ⟨b2, o2, rfl, f2⟩ := s2.natI h2 (k := j - 1) (by omega)
   obtain ⟨_, d1⟩ := f1 (j - 1) (by omega) wr (hφ.below hB.out)
   obtain ⟨_, d2⟩ := f2 (j - 1) (by omega) wr (hφ.below hB.out)
   have hlt1 := Lib.hid (hcmp.out (j - 1) (by rw [h1.out]; omega) (fun i h3 h4 => hz.out i (by omega) (by rw [← h1.out]; exact h4)))
   have hlt2 := Lib.hid (hcmp2.out (j - 1) (by rw [h2.out]; omega) (fun i h3 h4 => (hz.out i (by omega) (by rw [← h2.out]; exact h4)).symm))
   obtain ⟨x, hx⟩ : ∃ x, Hid (X.getD (j - 1) 0 = x) := ⟨_, Lib.hid rfl⟩
   obtain ⟨y, hy⟩ : ∃ y, Hid (Y.getD (j - 1) 0 = y) := ⟨_, Lib.hid rfl⟩
   have hnx : Hid (x = y → ∀ i, j - 1 ≤ i → i < k1 → X.getD i 0 = Y.getD i 0) := Lib.hid (fun e i h3 h4 => by
    by_cases e2 : i = j - 1
    ·subst e2; rw [hx.out, hy.out, e]
    ·exact hz.out i (by omega) h4)
   rw [hx.out] at d1
   rw [hy.out] at d2
   rw [hx.out, hy.out] at hlt1 hlt2
   have hpos : (0 : Int) ≤ (j : Int) - 1 := by omega
   have hbd : (j : Int) - 1 < k1 := by omega
   have hto : ((j : Int) - 1).toNat = j - 1 := by omega
   clear f1 f2
   by_cases hxy : x < y
   ·have hq1 : q = -1 := by rw [← hq.out, cmpN, if_pos (hlt1.out hxy)]
    subst hq1
    have hxi : (x : Int) < (y : Int) := by omega
    have hxe : ((x : Int) == (y : Int)) = false := by simp; omega
    go_wp2
    go_quiet (fail)
    go_wp2
    go_quiet (fail)
    clear hto
    go_wp2
    go_ret
    exact ⟨rfl, bdrewN (bdrewN hB.out _) _⟩
   ·by_cases hyx : y < x
    ·have hq1 : q = 1 := by
      have := hlt2.out hyx
      rw [← hq.out, cmpN, if_neg (by omega), if_pos this]
     subst hq1
     have hxi : ¬ (x : Int) < (y : Int) := by omega
     have hxe : ((x : Int) == (y : Int)) = false := by simp; omega
     go_wp2
     go_quiet (fail)
     go_wp2
     go_quiet (fail)
     clear hto
     go_wp2
     go_ret
     exact ⟨rfl, bdrewN (bdrewN hB.out _) _⟩
    ·have hxe : ((x : Int) == (y : Int)) = true := by simp; omega
     have hxe2 : x = y := by omega
     have HXE := Lib.hid hxe2
     clear hxe2 hxy hyx
     go_wp2
     go_quiet (fail)
     go_wp2
     go_roundw
     case rel => exact ⟨j - 1, by omega, by go_num, Lib.hid (hnx.out HXE.out), Lib.hid (bdrewN hB.out _)⟩
     case measure => simp [intOf]; omega
end Go.Proofs.YtmlpjffnmkndoaaGreatDoor
