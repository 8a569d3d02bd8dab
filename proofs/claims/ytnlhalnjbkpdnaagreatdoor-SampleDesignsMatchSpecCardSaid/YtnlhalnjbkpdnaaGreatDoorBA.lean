/- The reference's natural numbers: limbs as ints. Words, and the walks of trim, small and order. The reference's natural numbers: the walks of short, times and plus. The reference's natural numbers: the walk of plus. The reference's natural numbers: the walks of divide (for numbers of one limb) and divisor. The reference's exact numbers: words, and the walks of lowest and reduced. Conditions: none beyond what the claim form gives. -/
import Derived.Test.YtnlhalnjbkpdnaaGreatDoorNA
import Derived.Test.YtnlhalnjbkpdnaaGreatDoorAB
namespace Go.Proofs.YtnlhalnjbkpdnaaGreatDoor
open Go.RowKit
set_option linter.unusedVariables false
set_option linter.unusedSimpArgs false
/-- A natural number in memory: a slice of limbs as ints. -/
instance repNatI : Rep Nat where
  size := 1
  rep := fun _ x cs => cs = [.int .i64 (x : Int)]
  len := by intro _ _ _ h; subst h; rfl
  mono := fun _ h => h
  one := by intro _ _ _ h u hu; subst h; simp at hu; subst hu; rfl
theorem SlV.natI {φ : Phi} {a : Option Addr} {cap : Nat} {xs : List Nat} (h : SlV φ a cap xs) {k n : Nat} (hn : Hid (xs.length = n)) (hk : k < n) :
    ∃ b off, a = some ⟨b, off, none⟩ ∧ ∀ k, k < n → ∀ w, Fz φ w → b < w.heap.size ∧ w.cell? ⟨b, off + k, none⟩ = some (.int .i64 ((xs.getD k 0 : Nat) : Int)) := by
  obtain ⟨b, off, ha, hc⟩ := h.cellsD 0 hn hk
  refine ⟨b, off, ha, fun k hk w hw => ?_⟩
  obtain ⟨cs, hr, hj⟩ := hc k hk
  cases hr
  have j0 := hj 0 (by simp)
  simp [Rep.size] at j0
  exact ⟨hw.lt j0, hw.cell j0⟩
theorem Own.natI {B : Nat} {φ : Phi} {w : World} {E : TypeId} {a : Option Addr} {cap : Nat} {xs : List Nat} (h : Own B φ w E a cap xs) {k n : Nat} (hn : Hid (xs.length = n)) (hk : k < n) :
    ∃ g, a = some ⟨g, 0, none⟩ ∧ g < w.heap.size ∧ ∀ k, k < n → w.cell? ⟨g, k, none⟩ = some (.int .i64 ((xs.getD k 0 : Nat) : Int)) ∧ w.frozen? ⟨g, k, none⟩ = false ∧
      ∀ (y : Nat) w0 φ0, Inv B w0 φ0 φ w → Own B φ (w.setCell ⟨g, k, none⟩ (.int .i64 (y : Int))) E a cap (xs.set k y) ∧ Inv B w0 φ0 φ (w.setCell ⟨g, k, none⟩ (.int .i64 (y : Int))) := by
  obtain ⟨g, rfl, _, hg, _, hf, hc⟩ := h.elem (k := k) (by rw [hn.out]; exact hk)
  refine ⟨g, rfl, hg, fun k hk => ?_⟩
  have hk' : k < xs.length := by rw [hn.out]; exact hk
  obtain ⟨cs, hcs, hj⟩ := hc k hk'
  have hcs' : cs = [.int .i64 (xs[k] : Int)] := hcs
  subst hcs'
  have h0 := hj 0 (by simp)
  simp [Rep.size] at h0
  refine ⟨by rw [h0, getD_elem0 _ _ _ hk'], hf k, fun y w0 φ0 hi => ?_⟩
  have := h.setCell hi hk' (y := y) (j := 0) (u := .int .i64 (y : Int)) hj rfl (by simp) rfl
  simpa [Rep.size] using this
theorem SlV.trimI {φ : Phi} {a : Option Addr} {c : Nat} {xs : List Nat} (s : SlV φ a c xs) (h : Lim xs) {m : Nat} (hm : LV xs = m) : SlV φ a c (limbs m) := by
  subst hm
  obtain ⟨k, _, e⟩ := trim_take h
  rw [e]; exact s.take k
theorem slNatI : SliceTy Tryz.prog 53 3 (.int .i64 0) (Rep.size Nat) 8 := ⟨Tryz.underlying53, by kernel_rfl, rfl, by decide, by decide⟩
def NatI (m : Nat) (φ : Phi) (w : World) (e : Ending) (w' : World) : Prop :=
  ∃ a cap φ', e = .returned (.slice a (limbs m).length cap) ∧ Inv w.heap.size w φ φ' w' ∧ SlV φ' a cap (limbs m)
def NatVI (m : Nat) (v : Value) (φ : Phi) (w : World) (e : Ending) (w' : World) : Prop :=
  ∃ a cap φ', e = .returned (.tuple #[.slice a (limbs m).length cap, v]) ∧ Inv w.heap.size w φ φ' w' ∧ SlV φ' a cap (limbs m)
set_option maxHeartbeats 1000000 in
theorem Rtrim_any {n : Nat} {a : Option Addr} {c : Nat} {xs : List Nat} {w : World} {φ : Phi} (hφ : Fz φ w) (s : SlV φ a c xs) (hn : Hid (xs.length = n)) (hm : n ≤ 9000000000000000000) (hl : Hid (Lim xs)) {q : Nat} (hq : Hid ((limbs (LV xs)).length = q)) :
    Calls Tryz.prog 135 #[.slice a n c] w (fun e w' => e = .returned (.slice a q c) ∧ w = w') := by
  have hcap : n ≤ c := by rw [← hn.out]; exact s.capn
  go_enter Tryz.func135, Tryz.ntmps135
  go_wp2
  go_loop [3] (fun v => ∃ k : Nat, k ≤ n ∧ v = .int .i64 (k : Int) ∧ Hid (∀ i, k ≤ i → i < n → xs.getD i 0 = 0)) (fun v => (intOf v).toNat)
  case atStart => exact ⟨n, Nat.le_refl _, rfl, Lib.hid (fun i h1 h2 => by omega)⟩
  case round =>
    obtain ⟨k, hk, rfl, hz⟩ := hrel
    by_cases h0 : k = 0
    · have H0 := Lib.hid h0
      have hk0 : ¬ (0 : Int) < (k : Int) := by omega
      clear h0
      go_wp2
      go_ret
      have := trim_eq hl.out (k := k) (by rw [hn.out]; exact hk) (by rw [hn.out]; exact hz.out) (.inl H0.out)
      exact ⟨by rw [← hq.out, ← this, List.length_take, hn.out, Nat.min_eq_left hk]; rfl, rfl⟩
    · obtain ⟨b, off, rfl, f⟩ := s.natI hn (k := k - 1) (by omega)
      obtain ⟨hb, c1⟩ := f (k - 1) (by omega) w hφ
      obtain ⟨x, hx⟩ : ∃ x, Hid (xs.getD (k - 1) 0 = x) := ⟨_, Lib.hid rfl⟩
      rw [hx.out] at c1
      have hk0 : (0 : Int) < (k : Int) := by omega
      have hto : ((k : Int) - 1).toNat = k - 1 := by omega
      have hix : 0 ≤ (k : Int) - 1 := by omega
      have hix2 : (k : Int) - 1 < n := by omega
      have hlt : Hid (∀ i, k - 1 ≤ i → i < n → x = 0 → xs.getD i 0 = 0) := Lib.hid (fun i h1 h2 h3 => by
        by_cases e : i = k - 1
        · subst e; rw [hx.out, h3]
        · exact hz.out i (by omega) h2)
      clear f
      by_cases hx0 : x = 0
      · subst hx0
        go_wp2
        go_round
        case rel => exact ⟨k - 1, by omega, by go_num, Lib.hid (fun i h1 h2 => hlt.out i h1 h2 rfl)⟩
        case measure => simp [intOf]; omega
      · have hne : ((x : Int) == 0) = false := by simp [hx0]
        have HX0 := Lib.hid hx0
        clear hx0
        go_wp2
        go_ret
        have := trim_eq hl.out (k := k) (by rw [hn.out]; exact hk) (by rw [hn.out]; exact hz.out) (.inr (by rw [hx.out]; exact HX0.out))
        exact ⟨by rw [← hq.out, ← this, List.length_take, hn.out, Nat.min_eq_left hk]; rfl, rfl⟩
set_option maxHeartbeats 1000000 in
theorem Rsmall_any (m : Nat) (hm : m < 9223372036854775808) (w : World) (φ : Phi) (hφ : Fz φ w) :
    Calls Tryz.prog 65 #[.int .i64 (m : Int)] w (NatI m φ w) := by
  have hS0 : Hid (OwSt w φ 3 none 0 ([] : List Nat) w) := Lib.hid ⟨Inv.start hφ, Own.nil _ _ _ _⟩
  have hl3 : Hid ((limbs m).length ≤ 3) := Lib.hid (limbs_le (by
    have : lb ^ 3 = 1000000000000000000000000000 := by decide
    omega))
  go_enter Tryz.func65, Tryz.ntmps65
  go_wp2
  go_loopw [0, 3] (fun v o wr => ∃ (r : Nat) (ao : Option Addr) (co : Nat) (ds : List Nat), r < 9223372036854775808 ∧ v = .int .i64 (r : Int) ∧ o = .slice ao ds.length co ∧ Hid (limbs m = ds ++ limbs r) ∧ Hid (OwSt w φ 3 ao co ds wr)) (fun v _ _ => (intOf v).toNat)
  case atStart => exact ⟨m, none, 0, [], hm, rfl, rfl, Lib.hid rfl, hS0⟩
  case round =>
    clear hS0
    obtain ⟨r, ao, co, ds, hr, rfl, rfl, hd, hS⟩ := hrel
    by_cases h0 : r = 0
    · subst h0
      have e : Hid (limbs m = ds) := Lib.hid (by rw [hd.out, limbs_zero, List.append_nil])
      go_wp2
      go_ret
      obtain ⟨φ', _, hi, hs, _⟩ := hS.out.own.release hS.out.inv
      refine ⟨ao, co, φ', ?_, hi, ?_⟩
      · rw [e.out]; rfl
      · rw [e.out]; exact hs
    · have hr0 : (0 : Int) < (r : Int) := by omega
      have hd2 : Hid (limbs m = (ds ++ [r % lb]) ++ limbs (r / lb)) := Lib.hid (by rw [hd.out, limbs_pos h0]; simp)
      have hdl : ds.length ≤ 3 := by
        have := hl3.out
        rw [hd.out, List.length_append] at this
        omega
      have hin := Lib.hid hS.out.inv
      have hon := Lib.hid hS.out.own
      have em : ((r % lb : Nat) : Int) = (r : Int) % 1000000000 := rfl
      have ed : ((r / lb : Nat) : Int) = (r : Int) / 1000000000 := rfl
      have EM := Lib.hid em
      have ED := Lib.hid ed
      have hlt : r / lb < r := Nat.div_lt_self (by omega) lb_gt
      clear em ed
      go_wp2_with (at_builtin; (refine wpList_app1F (α := Nat) rfl _ _ 53 rfl slNatI hin.out ao co _ hon.out _ _ (r % lb) (by show [Value.int .i64 ((r : Int) % 1000000000)] = [Value.int .i64 ((r % lb : Nat) : Int)]; rw [EM.out]) rfl 1 rfl (by omega) ?_; intro a8 c8 w8 hi8 ho8 hg8 hf8))
      go_roundw
      case rel => exact ⟨r / lb, a8, c8, ds ++ [r % lb], by omega, by rw [ED.out], by simp, hd2, Lib.hid ⟨hi8, ho8⟩⟩
      case measure =>
        show (intOf (.int .i64 ((r : Int) / 1000000000))).toNat < (intOf (.int .i64 (r : Int))).toNat
        rw [← ED.out]
        simp only [intOf]
        omega
set_option maxHeartbeats 1000000 in
theorem Rorder_any {m n k1 k2 : Nat} {a1 a2 : Option Addr} {c1 c2 : Nat} {w : World} {φ : Phi} (hφ : Fz φ w) (s1 : SlV φ a1 c1 (limbs m)) (s2 : SlV φ a2 c2 (limbs n)) (h1 : Hid ((limbs m).length = k1)) (h2 : Hid ((limbs n).length = k2)) (hk1 : k1 ≤ 4000000000) (hk2 : k2 ≤ 4000000000) {q : Int} (hq : Hid (cmpN m n = q)) :
    Calls Tryz.prog 70 #[.slice a1 k1 c1, .slice a2 k2 c2] w (fun e w' => e = .returned (.int .i64 q) ∧ Below w.heap.size w w') := by
  go_enter Tryz.func70, Tryz.ntmps70
  by_cases hl : k1 = k2
  case neg =>
    have hne : ((k1 : Int) == (k2 : Int)) = false := by simp; omega
    by_cases hlt : k1 < k2
    · have e : Hid (q = -1) := Lib.hid (by
        have := cmp_len (m := m) (n := n) (by rw [h1.out, h2.out]; exact hlt)
        rw [← hq.out, cmpN, if_pos this])
      go_wp2
      go_ret
      exact ⟨ret_int (by rw [e.out]), Below.refl _ _⟩
    · have e : Hid (q = 1) := Lib.hid (by
        have := cmp_len (m := n) (n := m) (by rw [h1.out, h2.out]; omega)
        rw [← hq.out, cmpN, if_neg (by omega), if_pos this])
      go_wp2
      go_ret
      exact ⟨ret_int (by rw [e.out]), Below.refl _ _⟩
  subst hl
  have heq0 : ((k1 : Int) == (k1 : Int)) = true := by simp
  have hLx := Lib.hid (limbs_lim m)
  have hLy := Lib.hid (limbs_lim n)
  have hcmp := Lib.hid (fun k hk hz h => cmp_at (xs := limbs m) (ys := limbs n) (limbs_lim m) (by rw [h1.out, h2.out]) (k := k) hk hz h)
  have hcmp2 := Lib.hid (fun k hk hz h => cmp_at (xs := limbs n) (ys := limbs m) (limbs_lim n) (by rw [h1.out, h2.out]) (k := k) hk hz h)
  have heq : Hid ((∀ i, i < k1 → (limbs m).getD i 0 = (limbs n).getD i 0) → q = 0) := Lib.hid (fun h => by
    have e : limbs m = limbs n := by
      apply List.ext_getElem (by rw [h1.out, h2.out])
      intro i h3 h4
      rw [← getD_elem0 0 _ _ h3, ← getD_elem0 0 _ _ h4]
      exact h i (by rw [← h1.out]; exact h3)
    have e2 : m = n := by rw [← LV_limbs m, e, LV_limbs]
    rw [← hq.out, cmpN, e2, if_neg (by omega), if_neg (by omega)])
  rw [LV_limbs, LV_limbs] at hcmp hcmp2
  generalize limbs m = X at *
  generalize limbs n = Y at *
  go_wp2
  go_loopw [5] (fun v wr => ∃ j : Nat, j ≤ k1 ∧ v = .int .i64 ((j : Int) - 1) ∧ Hid (∀ i, j ≤ i → i < k1 → X.getD i 0 = Y.getD i 0) ∧ Hid (Below w.heap.size w wr)) (fun v _ => (intOf v + 1).toNat)
  case atStart => exact ⟨k1, Nat.le_refl _, rfl, Lib.hid (fun i h3 h4 => by omega), Lib.hid (Below.refl _ _)⟩
  case round =>
    obtain ⟨j, hj, rfl, hz, hB⟩ := hrel
    by_cases hj0 : j = 0
    · have e0 : q = 0 := heq.out (fun i hi => hz.out i (by omega) hi)
      subst e0
      have hneg : ¬ (0 : Int) ≤ (j : Int) - 1 := by omega
      go_wp2
      go_ret
      exact ⟨rfl, hB.out⟩
    · obtain ⟨b1, o1, rfl, f1⟩ := s1.natI h1 (k := j - 1) (by omega)
      obtain ⟨b2, o2, rfl, f2⟩ := s2.natI h2 (k := j - 1) (by omega)
      obtain ⟨_, d1⟩ := f1 (j - 1) (by omega) wr (hφ.below hB.out)
      obtain ⟨_, d2⟩ := f2 (j - 1) (by omega) wr (hφ.below hB.out)
      have hlt1 := Lib.hid (hcmp.out (j - 1) (by rw [h1.out]; omega) (fun i h3 h4 => hz.out i (by omega) (by rw [← h1.out]; exact h4)))
      have hlt2 := Lib.hid (hcmp2.out (j - 1) (by rw [h2.out]; omega) (fun i h3 h4 => (hz.out i (by omega) (by rw [← h2.out]; exact h4)).symm))
      obtain ⟨x, hx⟩ : ∃ x, Hid (X.getD (j - 1) 0 = x) := ⟨_, Lib.hid rfl⟩
      obtain ⟨y, hy⟩ : ∃ y, Hid (Y.getD (j - 1) 0 = y) := ⟨_, Lib.hid rfl⟩
      have hnx : Hid (x = y → ∀ i, j - 1 ≤ i → i < k1 → X.getD i 0 = Y.getD i 0) := Lib.hid (fun e i h3 h4 => by
        by_cases e2 : i = j - 1
        · subst e2; rw [hx.out, hy.out, e]
        · exact hz.out i (by omega) h4)
      rw [hx.out] at d1
      rw [hy.out] at d2
      rw [hx.out, hy.out] at hlt1 hlt2
      have hpos : (0 : Int) ≤ (j : Int) - 1 := by omega
      have hbd : (j : Int) - 1 < k1 := by omega
      have hto : ((j : Int) - 1).toNat = j - 1 := by omega
      clear f1 f2
      by_cases hxy : x < y
      · have hq1 : q = -1 := by rw [← hq.out, cmpN, if_pos (hlt1.out hxy)]
        subst hq1
        have hxi : (x : Int) < (y : Int) := by omega
        have hxe : ((x : Int) == (y : Int)) = false := by simp; omega
        go_wp2
        go_quiet (fail)
        go_wp2
        go_quiet (fail)
        clear hto
        go_wp2
        go_ret
        exact ⟨rfl, bdrewN (bdrewN hB.out _) _⟩
      · by_cases hyx : y < x
        · have hq1 : q = 1 := by
            have := hlt2.out hyx
            rw [← hq.out, cmpN, if_neg (by omega), if_pos this]
          subst hq1
          have hxi : ¬ (x : Int) < (y : Int) := by omega
          have hxe : ((x : Int) == (y : Int)) = false := by simp; omega
          go_wp2
          go_quiet (fail)
          go_wp2
          go_quiet (fail)
          clear hto
          go_wp2
          go_ret
          exact ⟨rfl, bdrewN (bdrewN hB.out _) _⟩
        · have hxe : ((x : Int) == (y : Int)) = true := by simp; omega
          have hxe2 : x = y := by omega
          have HXE := Lib.hid hxe2
          clear hxe2 hxy hyx
          go_wp2
          go_quiet (fail)
          go_wp2
          go_roundw
          case rel => exact ⟨j - 1, by omega, by go_num, Lib.hid (hnx.out HXE.out), Lib.hid (bdrewN hB.out _)⟩
          case measure => simp [intOf]; omega
end Go.Proofs.YtnlhalnjbkpdnaaGreatDoor

namespace Go.Proofs.YtnlhalnjbkpdnaaGreatDoor
open Go.RowKit
set_option linter.unusedVariables false
set_option linter.unusedSimpArgs false
set_option maxRecDepth 100000 in
set_option maxHeartbeats 2000000 in
theorem Rshort_any {m k d : Nat} {a : Option Addr} {c : Nat} {w : World} {φ : Phi} (hφ : Fz φ w) (s : SlV φ a c (limbs m)) (hk : Hid ((limbs m).length = k)) (hk4 : k ≤ 4000000000) (hd0 : 0 < d) (hd1 : d ≤ 1000000000) :
    Calls Tryz.prog 204 #[.slice a k c, .int .i64 (d : Int)] w (NatVI (m / d) (.int .i64 ((m % d : Nat) : Int)) φ w) := by
  have hI := Lib.hid (Inv.start hφ)
  go_enter Tryz.func204, Tryz.ntmps204
  go_wp2_with (at_make; (refine wpList_mkn (α := Nat) rfl _ _ 53 rfl slNatI hI.out _ _ k 0 (fun _ => rfl) rfl rfl rfl (by omega) ?_; intro w1 hi1 ho1 hg1))
  have hS0 : Hid (OwSt w φ 3 (some ⟨w.heap.size, 0, none⟩) k (List.replicate k 0) w1) := Lib.hid ⟨hi1, ho1⟩
  have hLm : Hid (Lim (limbs m)) := Lib.hid (limbs_lim m)
  have hmv : Hid (LV (limbs m) = m) := Lib.hid (LV_limbs m)
  generalize limbs m = X at *
  clear hi1 ho1 hg1
  go_loopw [7, 8] (fun rv v wr => ∃ (j r : Nat) (os : List Nat), j ≤ k ∧ r < d ∧ rv = .int .i64 (r : Int) ∧ v = .int .i64 ((j : Int) - 1) ∧ Hid (os.length = k) ∧ Hid (Lim os) ∧ Hid (LV (X.drop j) = d * LV (os.drop j) + r) ∧ Hid (OwSt w φ 3 (some ⟨w.heap.size, 0, none⟩) k os wr)) (fun _ v _ => (intOf v + 1).toNat)
  case atStart => exact ⟨k, 0, List.replicate k 0, Nat.le_refl _, hd0, rfl, rfl, Lib.hid (by simp), Lib.hid (Lim.zeros k), Lib.hid (by rw [LV_drop_ge _ _ (by rw [hk.out]; exact Nat.le_refl _), LV_drop_ge _ _ (by simp)]; rfl), hS0⟩
  case round =>
    clear hS0
    obtain ⟨j, r, os, hj, hr, rfl, rfl, hol, hoL, hinv, hS⟩ := hrel
    by_cases hj0 : j = 0
    · subst hj0
      have hdm : Hid (m / d = LV os ∧ m % d = r) := Lib.hid (by
        have := hinv.out
        rw [List.drop_zero, List.drop_zero, hmv.out] at this
        exact divmod_of hd0 this hr)
      obtain ⟨φ', _, hi, hs, _⟩ := hS.out.own.release hS.out.inv
      have HS' := Lib.hid hs
      have HI' := Lib.hid hi
      clear hi hs
      have hneg : ¬ (0 : Int) ≤ ((0 : Nat) : Int) - 1 := by omega
      obtain ⟨q, hq⟩ : ∃ q, Hid ((limbs (LV os)).length = q) := ⟨_, Lib.hid rfl⟩
      go_wp2_with (go_at_call 135; refine (Rtrim_any HI'.out.fz HS'.out hol (by omega) hoL hq).mono ?_; rintro e w' ⟨rfl, rfl⟩)
      go_ret2
      refine ⟨some ⟨w.heap.size, 0, none⟩, k, φ', ?_, HI'.out, ?_⟩
      · rw [hdm.out.1, hdm.out.2, hq.out]; rfl
      · rw [hdm.out.1]; exact HS'.out.trimI hoL.out rfl
    · obtain ⟨b, off, rfl, f⟩ := s.natI hk (k := j - 1) (by omega)
      obtain ⟨_, d1⟩ := f (j - 1) (by omega) wr hS.out.inv.fz
      obtain ⟨x, hx⟩ : ∃ x, Hid (X.getD (j - 1) 0 = x) := ⟨_, Lib.hid rfl⟩
      have hxl : x < 1000000000 := by rw [← hx.out]; exact hLm.out.getD _
      rw [hx.out] at d1
      obtain ⟨g, hga, hgl, fo⟩ := hS.out.own.natI hol (k := j - 1) (by omega)
      cases hga
      obtain ⟨e1, e2, e3⟩ := fo (j - 1) (by omega)
      have hsz : r * 1000000000 + x < d * 1000000000 := by
        have : (r + 1) * 1000000000 ≤ d * 1000000000 := Nat.mul_le_mul_right _ hr
        omega
      have hdl : d * 1000000000 ≤ 1000000000 * 1000000000 := Nat.mul_le_mul_right _ hd1
      obtain ⟨S, hSe⟩ : ∃ S, S = r * 1000000000 + x := ⟨_, rfl⟩
      have hq9 : S / d < 1000000000 := (Nat.div_lt_iff_lt_mul hd0).2 (by rw [hSe]; omega)
      have hr9 : S % d < d := Nat.mod_lt _ hd0
      have hnext : Hid (LV (X.drop (j - 1)) = d * LV ((os.set (j - 1) (S / d)).drop (j - 1)) + S % d) := Lib.hid (by
        rw [LV_set_drop _ (by rw [hol.out]; omega), LV_drop _ _ (by rw [hk.out]; omega), show j - 1 + 1 = j by omega, hinv.out, hx.out, Nat.mul_add, Nat.mul_add, Nat.mul_left_comm lb d]
        have e4 := Nat.div_add_mod S d
        have e5 : lb * r = r * 1000000000 := Nat.mul_comm _ _
        omega)
      have hoN : Hid (Lim (os.set (j - 1) (S / d))) := Lib.hid (hoL.out.set hq9)
      have hst := Lib.hid (e3 (S / d) w φ hS.out.inv)
      have hpos : (0 : Int) ≤ (j : Int) - 1 := by omega
      have hbd : (j : Int) - 1 < k := by omega
      have hto : ((j : Int) - 1).toNat = j - 1 := by omega
      have hSi : (r : Int) * 1000000000 + (x : Int) = (S : Int) := by omega
      have hrs : (r : Int) * 1000000000 ≤ 18446744073709551615 := by omega
      have HSI := Lib.hid hSi
      have hd0i : (1 : Int) ≤ (d : Int) := by omega
      have hS9 : (S : Int) ≤ 18446744073709551615 := by omega
      have ed : ((S / d : Nat) : Int) = (S : Int) / (d : Int) := rfl
      have er : ((S % d : Nat) : Int) = (S : Int) % (d : Int) := rfl
      have ED := Lib.hid (And.intro ed er)
      have HSE := Lib.hid hSe
      have hq1 : IntKind.i64.wrap ((S : Int) / (d : Int)) = ((S / d : Nat) : Int) := by
        rw [← ed]
        exact IntWalk.i64_in _ ⟨Int.natCast_nonneg _, by have := Int.ofNat_le.2 (Nat.le_of_lt hq9); exact Int.le_trans this (by decide)⟩
      have hdz : ((d : Int) == 0) = false := by simp; omega
      have HQ1 := Lib.hid hq1
      clear f fo e3 ed er hSe hsz hdl hq1 hSi
      go_wp2
      rw [HSI.out]
      rw [← ED.out.2]
      go_roundw
      case rel => exact ⟨j - 1, S % d, os.set (j - 1) (S / d), by omega, hr9, rfl, by go_num, Lib.hid (by rw [List.length_set]; exact hol.out), hoN, hnext, Lib.hid ⟨hst.out.2, hst.out.1⟩⟩
      case measure => simp [intOf]; omega
set_option maxRecDepth 100000 in
set_option maxHeartbeats 4000000 in
theorem Rtimes_any {m n na nb : Nat} {a b : Option Addr} {ca cb : Nat} {w : World} {φ : Phi} (hφ : Fz φ w) (sa : SlV φ a ca (limbs m)) (sb : SlV φ b cb (limbs n)) (hna : Hid ((limbs m).length = na)) (hnb : Hid ((limbs n).length = nb)) (h4a : na ≤ 2000000000) (h4b : nb ≤ 2000000000) :
    Calls Tryz.prog 67 #[.slice a na ca, .slice b nb cb] w (NatI (m * n) φ w) := by
  have hI := Lib.hid (Inv.start hφ)
  have hsum : Hid ((na : Int) + (nb : Int) + 1 = ((na + nb + 1 : Nat) : Int)) := Lib.hid (by omega)
  go_enter Tryz.func67, Tryz.ntmps67
  go_wp2_with (at_make; (refine wpList_mkn (α := Nat) rfl _ _ 53 rfl slNatI hI.out _ _ (na + nb + 1) 0 (fun _ => rfl) rfl rfl rfl (by omega) ?_; intro w1 hi1 ho1 hg1))
  have hS0 : Hid (OwSt w φ 3 (some ⟨w.heap.size, 0, none⟩) (na + nb + 1) (List.replicate (na + nb + 1) 0) w1) := Lib.hid ⟨hi1, ho1⟩
  have hLa : Hid (Lim (limbs m)) := Lib.hid (limbs_lim m)
  have hLb : Hid (Lim (limbs n)) := Lib.hid (limbs_lim n)
  have hma : Hid (LV (limbs m) = m) := Lib.hid (LV_limbs m)
  have hmb : Hid (LV (limbs n) = n) := Lib.hid (LV_limbs n)
  have hbL : Hid (n < lb ^ nb) := Lib.hid (by rw [← hnb.out]; exact limbs_lt n)
  generalize limbs m = A at *
  generalize limbs n = B at *
  obtain ⟨N, hN⟩ : ∃ N, Hid (na + nb + 1 = N) := ⟨_, Lib.hid rfl⟩
  have hN4 : N ≤ 4000000001 := by rw [← hN.out]; omega
  rw [hN.out] at hS0 ⊢
  clear hi1 ho1 hg1
  go_loopw [19] (fun v wr => ∃ (i : Nat) (os : List Nat), i ≤ na ∧ v = .int .i64 (i : Int) ∧ Hid (os.length = N) ∧ Hid (Lim os) ∧ Hid (LV os = LV (A.take i) * n) ∧ Hid (OwSt w φ 3 (some ⟨w.heap.size, 0, none⟩) N os wr)) (fun v _ => na - (intOf v).toNat)
  case atStart => exact ⟨0, List.replicate N 0, Nat.zero_le _, rfl, Lib.hid (by simp), Lib.hid (Lim.zeros N), Lib.hid (by rw [List.take_zero, LV, Nat.zero_mul, LV_zeros]), hS0⟩
  case round =>
    clear hS0
    obtain ⟨i, os, hi, rfl, hol, hoL, hov, hS⟩ := hrel
    by_cases hlt : i < na
    · obtain ⟨ba, oa, rfl, f⟩ := sa.natI hna hlt
      obtain ⟨_, d1⟩ := f i hlt wr hS.out.inv.fz
      obtain ⟨x, hx⟩ : ∃ x, Hid (A.getD i 0 = x) := ⟨_, Lib.hid rfl⟩
      have hxl : x < 1000000000 := by rw [← hx.out]; exact hLa.out.getD _
      rw [hx.out] at d1
      have htk : Hid (LV (A.take (i + 1)) = LV (A.take i) + lb ^ i * x) := Lib.hid (by rw [LV_take, hx.out])
      have hAi : Hid (LV (A.take i) < lb ^ i) := Lib.hid (by have := LV_lt (hLa.out.take i); rwa [List.length_take, Nat.min_eq_left (by rw [hna.out]; omega)] at this)
      have hA := Lib.hid (fun w (hw : Fz φ w) => (f i hlt w hw).2)
      have hil : (i : Int) < (na : Int) := by omega
      clear f d1
      go_wp2
      go_loopw [7, 8] (fun cv kv wi => ∃ (c k : Nat) (os' : List Nat), k ≤ nb + 1 ∧ c < 1000000000 ∧ (k = nb + 1 → c = 0) ∧ cv = .int .i64 (c : Int) ∧ kv = .int .i64 (k : Int) ∧ Hid (os'.length = N) ∧ Hid (Lim os') ∧ Hid (LV os' + c * (lb ^ i * lb ^ k) = LV os + x * LV (B.take k) * lb ^ i) ∧ Hid (OwSt w φ 3 (some ⟨w.heap.size, 0, none⟩) N os' wi)) (fun _ kv _ => nb + 1 - (intOf kv).toNat)
      case atStart => exact ⟨0, 0, os, by omega, by omega, fun h => by omega, rfl, rfl, hol, hoL, Lib.hid (by simp [LV]), hS⟩
      case round =>
        clear hS
        obtain ⟨c, k, os', hk, hc, hkc, rfl, rfl, hol', hoL', hinv, hSi⟩ := hrel
        rename World => wi
        have d1 := hA.out wi hSi.out.inv.fz
        rw [hx.out] at d1
        by_cases hend : ¬ k < nb ∧ c = 0
        · obtain ⟨hkn, rfl⟩ := hend
          have hkn2 : ¬ (k : Int) < (nb : Int) := by omega
          have hout : Hid (LV os' = LV (A.take (i + 1)) * n) := Lib.hid (by
            have h := hinv.out
            rw [Nat.zero_mul, Nat.add_zero, List.take_of_length_le (by rw [hnb.out]; omega), hmb.out, hov.out] at h
            rw [h, htk.out]; grind)
          go_wp2
          go_roundw
          case rel => exact ⟨i + 1, os', by omega, by go_num, hol', hoL', hout, hSi⟩
          case measure => (simp [intOf] <;> omega)
        · have hki : k ≤ nb := by
            rcases Nat.lt_or_ge k nb with q | q
            · omega
            · have hc0 : 0 < c := by omega
              have h := hinv.out
              rw [List.take_of_length_le (by rw [hnb.out]; omega), hmb.out, ← Nat.pow_add] at h
              exact carry_bd h hov.out hAi.out hbL.out hxl hc0
          have hin : i + k < N := by
            rcases Nat.lt_or_ge k nb with q | q
            · rw [← hN.out]; omega
            · rw [← hN.out]; omega
          obtain ⟨g, hga, hgl, fo⟩ := hSi.out.own.natI hol' hin
          cases hga
          obtain ⟨e1, e2, e3⟩ := fo (i + k) hin
          obtain ⟨o, ho⟩ : ∃ o, Hid (os'.getD (i + k) 0 = o) := ⟨_, Lib.hid rfl⟩
          have hoo : o < 1000000000 := by rw [← ho.out]; exact hoL'.out.getD _
          rw [ho.out] at e1
          have hset := Lib.hid (fun q => LV_set os' q (k := i + k) (by rw [hol'.out]; exact hin))
          rw [ho.out, Nat.pow_add] at hset
          have E3 := Lib.hid e3
          have hw1 : IntKind.i64.wrap ((i : Int) + (k : Int)) = ((i + k : Nat) : Int) := by rw [IntWalk.i64_in _ (by omega)]; omega
          have hii : (i : Int) + (k : Int) = ((i + k : Nat) : Int) := by omega
          have hto : ((i : Int) + (k : Int)).toNat = i + k := by omega
          have hb1 : (i : Int) + (k : Int) < (N : Int) := by omega
          have hb0 : (0 : Int) ≤ (i : Int) + (k : Int) := by omega
          clear e3 fo hw1 hii
          by_cases hkn : k < nb
          · obtain ⟨bb, ob, rfl, f2⟩ := sb.natI hnb hkn
            obtain ⟨_, d2⟩ := f2 k hkn wi hSi.out.inv.fz
            obtain ⟨y, hy⟩ : ∃ y, Hid (B.getD k 0 = y) := ⟨_, Lib.hid rfl⟩
            have hyl : y < 1000000000 := by rw [← hy.out]; exact hLb.out.getD _
            rw [hy.out] at d2
            obtain ⟨p, hp⟩ : ∃ p, p = x * y := ⟨_, rfl⟩
            have hpl : p ≤ 999999999 * 999999999 := by rw [hp]; exact Nat.mul_le_mul (by omega) (by omega)
            have hpi : (x : Int) * (y : Int) = (p : Int) := by rw [hp]; exact (Int.natCast_mul x y).symm
            obtain ⟨S, hSe⟩ : ∃ S, Hid (S = o + c + p) := ⟨_, Lib.hid rfl⟩
            have hSl : o + c + p < 1000000000 * 1000000000 := by omega
            have hSm : Hid (((o : Int) + (c : Int) + (p : Int)) % 1000000000 = ((S % lb : Nat) : Int)) := Lib.hid (by rw [hSe.out]; exact (Int.natCast_emod (o + c + p) lb).symm ▸ rfl)
            have hSd : Hid (((o : Int) + (c : Int) + (p : Int)) / 1000000000 = ((S / lb : Nat) : Int)) := Lib.hid (by rw [hSe.out]; exact (Int.natCast_ediv (o + c + p) lb).symm ▸ rfl)
            have hc9 : S / lb < 1000000000 := (Nat.div_lt_iff_lt_mul lb_pos).2 (by rw [hSe.out]; exact hSl)
            have hq9 : S % lb < lb := Nat.mod_lt _ lb_pos
            have hnext : Hid (LV (os'.set (i + k) (S % lb)) + S / lb * (lb ^ i * lb ^ (k + 1)) = LV os + x * LV (B.take (k + 1)) * lb ^ i) := Lib.hid (by
              have h5 := mul_step (K := lb ^ k) (Q := lb ^ i) (T := LV (B.take k)) (b := y) (s := S) (c' := S / lb) (q := S % lb) (o := o) (by rw [hinv.out]) (hset.out (S % lb)) (by rw [Nat.div_add_mod]) (by rw [hSe.out, hp])
              have h6 : lb ^ i * lb ^ (k + 1) = lb ^ i * lb ^ k * lb := by rw [Nat.pow_succ, Nat.mul_assoc]
              rw [LV_take, hy.out, h6]
              exact h5)
            have hst := Lib.hid (E3.out (S % lb) w φ hSi.out.inv)
            have hki2 : (k : Int) < (nb : Int) := by omega
            clear hp f2
            go_wp2
            go_quiet (fail)
            go_wp2
            rw [hSm.out, hSd.out]
            go_roundw
            case rel => exact ⟨S / lb, k + 1, os'.set (i + k) (S % lb), by omega, hc9, fun h => by omega, rfl, by go_num, Lib.hid (by rw [List.length_set]; exact hol'.out), Lib.hid (hoL'.out.set hq9), hnext, Lib.hid ⟨hst.out.2.drewN _, hst.out.1.drewN _⟩⟩
            case measure => (simp [intOf] <;> omega)
          · have hkn2 : ¬ (k : Int) < (nb : Int) := by omega
            have hc0 : 0 < c := by omega
            have hc0i : (0 : Int) < (c : Int) := by omega
            obtain ⟨S, hSe⟩ : ∃ S, Hid (S = o + c) := ⟨_, Lib.hid rfl⟩
            have hSl : o + c < 1000000000 * 1000000000 := by omega
            have hSm : Hid (((o : Int) + (c : Int)) % 1000000000 = ((S % lb : Nat) : Int)) := Lib.hid (by rw [hSe.out]; exact (Int.natCast_emod (o + c) lb).symm ▸ rfl)
            have hSd : Hid (((o : Int) + (c : Int)) / 1000000000 = ((S / lb : Nat) : Int)) := Lib.hid (by rw [hSe.out]; exact (Int.natCast_ediv (o + c) lb).symm ▸ rfl)
            have hc9 : S / lb < 1000000000 := (Nat.div_lt_iff_lt_mul lb_pos).2 (by rw [hSe.out]; exact hSl)
            have hq9 : S % lb < lb := Nat.mod_lt _ lb_pos
            have hB0 : Hid (LV (B.take (k + 1)) = LV (B.take k)) := Lib.hid (by rw [List.take_of_length_le (by rw [hnb.out]; omega), List.take_of_length_le (by rw [hnb.out]; omega)])
            have hnext : Hid (LV (os'.set (i + k) (S % lb)) + S / lb * (lb ^ i * lb ^ (k + 1)) = LV os + x * LV (B.take (k + 1)) * lb ^ i) := Lib.hid (by
              have h5 := mul_step (K := lb ^ k) (Q := lb ^ i) (T := LV (B.take k)) (b := 0) (s := S) (c' := S / lb) (q := S % lb) (o := o) (by rw [hinv.out]) (hset.out (S % lb)) (by rw [Nat.div_add_mod]) (by rw [hSe.out, Nat.mul_zero, Nat.add_zero])
              have h6 : lb ^ i * lb ^ (k + 1) = lb ^ i * lb ^ k * lb := by rw [Nat.pow_succ, Nat.mul_assoc]
              rw [hB0.out, h6]
              rw [Nat.mul_zero, Nat.add_zero] at h5
              exact h5)
            have hst := Lib.hid (E3.out (S % lb) w φ hSi.out.inv)
            have hz9 : Hid (S / lb = 0) := Lib.hid (by
              rcases Nat.eq_zero_or_pos (S / lb) with q | q
              · exact q
              · have h := hnext.out
                rw [List.take_of_length_le (by rw [hnb.out]; omega), hmb.out, ← Nat.pow_add] at h
                have := carry_bd h hov.out hAi.out hbL.out hxl q
                omega)
            clear hset E3
            go_wp2
            rw [hSm.out, hSd.out]
            go_roundw
            case rel => exact ⟨S / lb, k + 1, os'.set (i + k) (S % lb), by omega, hc9, fun _ => hz9.out, rfl, by go_num, Lib.hid (by rw [List.length_set]; exact hol'.out), Lib.hid (hoL'.out.set hq9), hnext, Lib.hid ⟨hst.out.2, hst.out.1⟩⟩
            case measure => (simp [intOf] <;> omega)
    · obtain rfl : na = i := by omega
      have hfin : Hid (LV os = m * n) := Lib.hid (by rw [hov.out, List.take_of_length_le (by rw [hna.out]; exact Nat.le_refl _), hma.out])
      obtain ⟨φ', _, hi', hs, _⟩ := hS.out.own.release hS.out.inv
      have HS' := Lib.hid hs
      have HI' := Lib.hid hi'
      clear hi' hs
      obtain ⟨q, hq⟩ : ∃ q, Hid ((limbs (LV os)).length = q) := ⟨_, Lib.hid rfl⟩
      go_wp2_with (go_at_call 135; refine (Rtrim_any HI'.out.fz HS'.out hol (by omega) hoL hq).mono ?_; rintro e w' ⟨rfl, rfl⟩)
      go_ret
      refine ⟨some ⟨w.heap.size, 0, none⟩, N, φ', ?_, HI'.out, HS'.out.trimI hoL.out hfin.out⟩
      rw [← hfin.out, hq.out]; rfl
end Go.Proofs.YtnlhalnjbkpdnaaGreatDoor

namespace Go.Proofs.YtnlhalnjbkpdnaaGreatDoor
open Go.RowKit
set_option linter.unusedVariables false
set_option linter.unusedSimpArgs false
theorem LV_snoc (xs : List Nat) (q : Nat) : LV (xs ++ [q]) = LV xs + lb ^ xs.length * q := by
  rw [LV_append]; simp [LV]
end Go.Proofs.YtnlhalnjbkpdnaaGreatDoor

namespace Go.Proofs.YtnlhalnjbkpdnaaGreatDoor
open Go.RowKit
set_option linter.unusedVariables false
set_option linter.unusedSimpArgs false
/-- Two natural numbers. -/
def DivI (m n : Nat) (φ : Phi) (w : World) (e : Ending) (w' : World) : Prop :=
  ∃ a1 c1 a2 c2 φ', e = .returned (.tuple #[.slice a1 (limbs m).length c1, .slice a2 (limbs n).length c2]) ∧ Inv w.heap.size w φ φ' w' ∧ SlV φ' a1 c1 (limbs m) ∧ SlV φ' a2 c2 (limbs n)
/-- What divide gives, for numbers up to M. -/
def RdivOk (M : Nat) : Prop := ∀ (m n k1 k2 : Nat) (a1 a2 : Option Addr) (c1 c2 : Nat) (w : World) (φ : Phi), Fz φ w → SlV φ a1 c1 (limbs m) → SlV φ a2 c2 (limbs n) → Hid ((limbs m).length = k1) → Hid ((limbs n).length = k2) → m ≤ M → n ≤ M → 0 < n →
  Calls Tryz.prog 150 #[.slice a1 k1 c1, .slice a2 k2 c2] w (DivI (m / n) (m % n) φ w)
/-- The number that a slice holds in a world. -/
def natAt (w : World) (v : Value) : Nat :=
  match v with
  | .slice (some a) n _ => LV ((List.range n).map fun k => match w.cell? ⟨a.block, a.off + k, none⟩ with | some (.int _ z) => z.toNat | _ => 0)
  | _ => 0
theorem natAt_I {φ : Phi} {w : World} {a : Option Addr} {c k y : Nat} (hφ : Fz φ w) (s : SlV φ a c (limbs y)) (hk : Hid ((limbs y).length = k)) : natAt w (.slice a k c) = y := by
  cases k with
  | zero =>
    have : y = 0 := limbs_len0.1 hk.out
    subst this
    cases a <;> rfl
  | succ k =>
    obtain ⟨b, off, rfl, f⟩ := s.natI hk (k := 0) (by omega)
    show LV _ = y
    have : ((List.range (k + 1)).map fun j => match w.cell? ⟨b, off + j, none⟩ with | some (.int _ z) => z.toNat | _ => 0) = limbs y := by
      apply List.ext_getElem (by rw [List.length_map, List.length_range, hk.out])
      intro i h1 h2
      rw [List.getElem_map, List.getElem_range, (f i (by rw [← hk.out]; exact h2) w hφ).2, getD_elem0 0 _ _ h2]
      simp
    rw [this, LV_limbs]
/-- Two numbers in a loop. -/
structure GcI (w0 : World) (φ : Phi) (a1 : Option Addr) (c1 : Nat) (x : Nat) (a2 : Option Addr) (c2 : Nat) (y : Nat) (φ' : Phi) (w : World) : Prop where
  inv : Inv w0.heap.size w0 φ φ' w
  s1 : SlV φ' a1 c1 (limbs x)
  s2 : SlV φ' a2 c2 (limbs y)
set_option maxHeartbeats 1000000 in
theorem Rdivisor_any {M : Nat} (hD : Hid (RdivOk M)) {m n k1 k2 : Nat} {a1 a2 : Option Addr} {c1 c2 : Nat} {w : World} {φ : Phi} (hφ : Fz φ w) (s1 : SlV φ a1 c1 (limbs m)) (s2 : SlV φ a2 c2 (limbs n)) (h1 : Hid ((limbs m).length = k1)) (h2 : Hid ((limbs n).length = k2)) (hm : m ≤ M) (hn : n ≤ M) :
    Calls Tryz.prog 149 #[.slice a1 k1 c1, .slice a2 k2 c2] w (NatI (Nat.gcd m n) φ w) := by
  have hS0 : Hid (GcI w φ a1 c1 m a2 c2 n φ w) := Lib.hid ⟨Inv.start hφ, s1, s2⟩
  clear s1 s2 hφ
  go_enter Tryz.func149, Tryz.ntmps149
  go_wp2
  go_loopw [0, 1] (fun u v wr => ∃ (x y k1 k2 : Nat) (a1 a2 : Option Addr) (c1 c2 : Nat) (φ' : Phi), x ≤ M ∧ y ≤ M ∧ u = .slice a1 k1 c1 ∧ v = .slice a2 k2 c2 ∧ Hid ((limbs x).length = k1) ∧ Hid ((limbs y).length = k2) ∧ Hid (Nat.gcd x y = Nat.gcd m n) ∧ Hid (GcI w φ a1 c1 x a2 c2 y φ' wr)) (fun _ v wr => natAt wr v)
  case atStart => exact ⟨m, n, k1, k2, a1, a2, c1, c2, φ, hm, hn, rfl, rfl, h1, h2, Lib.hid rfl, hS0⟩
  case round =>
    clear hS0 hm hn h1 h2
    obtain ⟨x, y, k1, k2, a1, a2, c1, c2, φ', hx, hy, rfl, rfl, h1, h2, hg, hS⟩ := hrel
    by_cases h0 : k2 = 0
    · subst h0
      have hy : y = 0 := limbs_len0.1 h2.out
      have e : Hid (x = Nat.gcd m n) := Lib.hid (by rw [← hg.out, hy, Nat.gcd_zero_right])
      go_wp2
      go_ret
      refine ⟨a1, c1, φ', ?_, hS.out.inv, ?_⟩
      · rw [← e.out, h1.out]; rfl
      · rw [← e.out]; exact hS.out.s1
    · have hy0 : 0 < y := by
        rcases Nat.eq_zero_or_pos y with q | q
        · exfalso; apply h0; rw [← h2.out, q, limbs_zero]; rfl
        · exact q
      have hk0 : (0 : Int) < (k2 : Int) := by omega
      have hme : Hid (natAt wr (.slice a2 k2 c2) = y) := Lib.hid (natAt_I hS.out.inv.fz hS.out.s2 h2)
      have hmod : x % y < y := Nat.mod_lt x hy0
      obtain ⟨k3, h3⟩ : ∃ k3, Hid ((limbs (x % y)).length = k3) := ⟨_, Lib.hid rfl⟩
      have hx3 : x % y ≤ M := by omega
      have hg2 : Hid (Nat.gcd y (x % y) = Nat.gcd m n) := Lib.hid (by rw [← hg.out, Nat.gcd_comm y, ← Nat.gcd_rec, Nat.gcd_comm])
      clear h0
      go_wp2_with (go_at_call 150; refine (hD.out x y k1 k2 a1 a2 c1 c2 _ φ' hS.out.inv.fz hS.out.s1 hS.out.s2 h1 h2 hx hy hy0).mono ?_; rintro e w2 ⟨a8, c8, a9, c9, φ9, rfl, hi9, hs8, hs9⟩; rw [h3.out])
      go_roundw
      case rel => exact ⟨y, x % y, k2, k3, a2, a9, c2, c9, φ9, hy, hx3, rfl, rfl, h2, h3, hg2, Lib.hid ⟨hS.out.inv.call hi9, hS.out.s2.mono hi9.le, hs9⟩⟩
      case measure =>
        rw [hme.out, natAt_I hi9.fz hs9 h3]
        exact hmod
end Go.Proofs.YtnlhalnjbkpdnaaGreatDoor

namespace Go.Proofs.YtnlhalnjbkpdnaaGreatDoor
open Go.RowKit
set_option linter.unusedVariables false
set_option linter.unusedSimpArgs false
/-- An exact number of the reference's, handed back. -/
def FrI (neg : Bool) (n d : Nat) (φ : Phi) (w : World) (e : Ending) (w' : World) : Prop :=
  ∃ a1 c1 a2 c2 φ', e = .returned (.agg #[.bool neg, .slice a1 (limbs n).length c1, .slice a2 (limbs d).length c2]) ∧ Inv w.heap.size w φ φ' w' ∧ SlV φ' a1 c1 (limbs n) ∧ SlV φ' a2 c2 (limbs d)
set_option maxRecDepth 100000 in
set_option maxHeartbeats 2000000 in
theorem Rlowest_any {M : Nat} (hD : Hid (RdivOk M)) {neg : Bool} {n d k1 k2 : Nat} {a1 a2 : Option Addr} {c1 c2 : Nat} {w : World} {φ : Phi} (hφ : Fz φ w) (s1 : SlV φ a1 c1 (limbs n)) (s2 : SlV φ a2 c2 (limbs d)) (h1 : Hid ((limbs n).length = k1)) (h2 : Hid ((limbs d).length = k2)) (hn : n ≤ M) (hd : d ≤ M) (hd0 : 0 < d) (hM : LenB M) :
    Calls Tryz.prog 94 #[.agg #[.bool neg, .slice a1 k1 c1, .slice a2 k2 c2]] w (FrI (neg && decide (n / Nat.gcd n d ≠ 0)) (n / Nat.gcd n d) (d / Nat.gcd n d) φ w) := by
  obtain ⟨φ1, hle1, hi1, hb1⟩ := (Inv.start hφ).frz (.cells #[.bool neg, .slice a1 k1 c1, .slice a2 k2 c2] 55)
  have hRS := Lib.hid (RsSt.start hi1 #[.bool false, .slice none 0 0, .slice none 0 0] 55)
  rw [alloc_sz] at hRS
  obtain ⟨g, hg⟩ : ∃ g, Hid (Nat.gcd d n = g) := ⟨_, Lib.hid rfl⟩
  have hgc : Nat.gcd n d = g := by rw [Nat.gcd_comm]; exact hg.out
  rw [hgc]
  have hg0 : 0 < g := by rw [← hgc]; exact gcd_dle hd0
  have hgM : g ≤ M := by rw [← hgc]; exact Nat.le_trans (Nat.gcd_le_right _ hd0) hd
  obtain ⟨kg, hkg⟩ : ∃ k, Hid ((limbs g).length = k) := ⟨_, Lib.hid rfl⟩
  obtain ⟨q1, hq1⟩ : ∃ k, Hid ((limbs (n / g)).length = k) := ⟨_, Lib.hid rfl⟩
  obtain ⟨q2, hq2⟩ : ∃ k, Hid ((limbs (d / g)).length = k) := ⟨_, Lib.hid rfl⟩
  have S1 := Lib.hid (s1.mono hle1)
  have S2 := Lib.hid (s2.mono hle1)
  have HB := Lib.hid hb1
  obtain ⟨bb, hbb⟩ : ∃ b, Hid (w.heap.size = b) := ⟨_, Lib.hid rfl⟩
  obtain ⟨ng, hng⟩ : ∃ b, Hid ((neg && decide (n / g ≠ 0)) = b) := ⟨_, Lib.hid rfl⟩
  rw [hng.out]
  clear s1 s2 hφ hb1 hi1 hgc
  have hsg : Hid ((neg = false ∧ ng = false) ∨ (neg = true ∧ q1 = 0 ∧ ng = false) ∨ (neg = true ∧ 0 < q1 ∧ ng = true)) := by
    refine Lib.hid ?_
    have e := hng.out
    cases neg
    · exact .inl ⟨rfl, by rw [← e]; rfl⟩
    · by_cases h0 : q1 = 0
      · have : n / g = 0 := limbs_len0.1 (by rw [hq1.out]; exact h0)
        exact .inr (.inl ⟨rfl, h0, by rw [← e, this]; rfl⟩)
      · have : n / g ≠ 0 := fun e2 => h0 (by rw [← hq1.out, e2, limbs_zero]; rfl)
        exact .inr (.inr ⟨rfl, by omega, by rw [← e, decide_eq_true this]; rfl⟩)
  go_enter Tryz.func94, Tryz.ntmps94
  go_wp2_with (first
      | (go_at_call 149; refine (Rdivisor_any hD hRS.out.inv.fz S2.out S1.out h2 h1 hd hn).mono ?_; rintro e w1 ⟨ag, cg, φ2, rfl, hi2, hs2⟩; rw [hg.out, hkg.out]; rw [hg.out] at hs2; have H2 := Lib.hid (hRS.out.call hi2); have L2 := Lib.hid hi2.le; have SG := Lib.hid hs2; have x1 : w1.cell? ⟨w.heap.size, 0, none⟩ = some (.bool neg) := box_cell HB.out L2.out H2.out.inv.fz 0; have x2 : w1.cell? ⟨w.heap.size, 1, none⟩ = some (.slice a1 k1 c1) := box_cell HB.out L2.out H2.out.inv.fz 1; have x3 : w1.cell? ⟨w.heap.size, 2, none⟩ = some (.slice a2 k2 c2) := box_cell HB.out L2.out H2.out.inv.fz 2)
      | (go_at_call 150; (refine (hD.out d g k2 kg a2 ag c2 cg _ φ3 H3.out.inv.fz (S2.out.mono L3.out) SG3.out h2 hkg hd hgM hg0).mono ?_); rintro e w4 ⟨a5, c5, a6, c6, φ4, rfl, hi4, hs5, hs6⟩; rw [hq2.out]; have H4 := Lib.hid (H3.out.call hi4); have L4 := Lib.hid (L3.out.trans hi4.le); have SN4 := Lib.hid (SN.out.mono hi4.le); have SD := Lib.hid hs5; have u1 : w4.cell? ⟨w.heap.size, 0, none⟩ = some (.bool neg) := box_cell HB.out L4.out H4.out.inv.fz 0; obtain ⟨z0, z1, z2, u2, u3, u4⟩ := H4.out.facts)
      | (go_at_call 150; (refine (hD.out n g k1 kg a1 ag c1 cg _ φ2 H2.out.inv.fz (S1.out.mono L2.out) SG.out h1 hkg hn hgM hg0).mono ?_); rintro e w3 ⟨a3, c3, a4, c4, φ3, rfl, hi3, hs3, hs4⟩; rw [hq1.out]; have H3 := Lib.hid (H2.out.call hi3); have L3 := Lib.hid (L2.out.trans hi3.le); have SG3 := Lib.hid (SG.out.mono hi3.le); have SN := Lib.hid hs3; have y1 : w3.cell? ⟨w.heap.size, 0, none⟩ = some (.bool neg) := box_cell HB.out L3.out H3.out.inv.fz 0; have y3 : w3.cell? ⟨w.heap.size, 2, none⟩ = some (.slice a2 k2 c2) := box_cell HB.out L3.out H3.out.inv.fz 2))
  all_goals first
    | (have hv : decide (0 < q1) = ng := by
         rcases hsg.out with ⟨h, h'⟩ | ⟨h, h', h''⟩ | ⟨h, h', h''⟩
         · exact absurd h (by simp [*])
         · rw [h', h'']; rfl
         · rw [h'']; exact decide_eq_true h'
       have hIZ := Lib.hid (((H4.out.inv.setCell H4.out.l H4.out.f (off := 0) (Value.bool (decide (0 < q1)))).setCell H4.out.l H4.out.f (off := 1) (Value.slice a3 q1 c3)).setCell H4.out.l H4.out.f (off := 2) (Value.slice a5 q2 c5))
       have hBZ := Lib.hid (((H4.out.k.set 0 (Value.bool (decide (0 < q1)))).set 1 (Value.slice a3 q1 c3)).set 2 (Value.slice a5 q2 c5))
       have e0 : _ = some (Value.bool (decide (0 < q1))) := hBZ.out.cell 0
       have e1 : _ = some (Value.slice a3 q1 c3) := hBZ.out.cell 1
       have e2 : _ = some (Value.slice a5 q2 c5) := hBZ.out.cell 2
       (try simp only [Exit.inBlock, Exit.then])
       refine bodyPost_ret (v := .agg #[(Value.bool (decide (0 < q1))), (Value.slice a3 q1 c3), (Value.slice a5 q2 c5)]) (by simp [results, Tryz.results94, go_sem, e0, e1, e2]) rfl ?_
       exact ⟨a3, c3, a5, c5, φ4, by rw [hq1.out, hq2.out, hv], hIZ.out, SN4.out, SD.out⟩)
    | (have hv : false = ng := by
         rcases hsg.out with ⟨h, h'⟩ | ⟨h, h', h''⟩ | ⟨h, h', h''⟩
         · exact h'.symm
         · exact h''.symm
         · exact absurd h (by assumption)
       have hIZ := Lib.hid (((H4.out.inv.setCell H4.out.l H4.out.f (off := 0) (Value.bool false)).setCell H4.out.l H4.out.f (off := 1) (Value.slice a3 q1 c3)).setCell H4.out.l H4.out.f (off := 2) (Value.slice a5 q2 c5))
       have hBZ := Lib.hid (((H4.out.k.set 0 (Value.bool false)).set 1 (Value.slice a3 q1 c3)).set 2 (Value.slice a5 q2 c5))
       have e0 : _ = some (Value.bool false) := hBZ.out.cell 0
       have e1 : _ = some (Value.slice a3 q1 c3) := hBZ.out.cell 1
       have e2 : _ = some (Value.slice a5 q2 c5) := hBZ.out.cell 2
       (try simp only [Exit.inBlock, Exit.then])
       refine bodyPost_ret (v := .agg #[(Value.bool false), (Value.slice a3 q1 c3), (Value.slice a5 q2 c5)]) (by simp [results, Tryz.results94, go_sem, e0, e1, e2]) rfl ?_
       exact ⟨a3, c3, a5, c5, φ4, by rw [hq1.out, hq2.out, hv], hIZ.out, SN4.out, SD.out⟩)
end Go.Proofs.YtnlhalnjbkpdnaaGreatDoor
