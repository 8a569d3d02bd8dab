/- The reference's natural numbers: the walk of scaled. The reference's natural numbers: the walk of guess. The reference's natural numbers: the walk of give. The reference's natural numbers: the walk of take. The walk of the reference's divide, for numbers of any length. Conditions: none beyond what the claim form gives. -/
import Derived.Test.YtnlhalnjbkpdnaaGreatDoorBB
import Derived.Test.YtnlhalnjbkpdnaaGreatDoorNC
import Derived.Deep.DeepCutAuto
import Derived.Test.YtnlhalnjbkpdnaaGreatDoorBA
import Derived.Test.YtnlhalnjbkpdnaaGreatDoorLB
namespace Go.Proofs.YtnlhalnjbkpdnaaGreatDoor
open Go.RowKit
set_option linter.unusedVariables false
set_option linter.unusedSimpArgs false
/-- A row's beginning. -/
theorem RepL.take {α : Type} [Rep α] {φ : Phi} : ∀ {xs : List α} {c : List Value}, RepL φ xs c → ∀ k, RepL φ (xs.take k) (c.take (k * Rep.size α))
  | [], c, h, k => by
    have h' : c = [] := h
    subst h'
    rw [List.take_nil, List.take_nil]; rfl
  | x :: xs, c, ⟨cs, ds, hc, hx, hr⟩, 0 => by rw [Nat.zero_mul]; rfl
  | x :: xs, c, ⟨cs, ds, hc, hx, hr⟩, k + 1 => by
    refine ⟨cs, ds.take (k * Rep.size α), ?_, hx, RepL.take hr k⟩
    have hl := Rep.len hx
    rw [hc, List.take_append, List.take_of_length_le (by rw [Nat.succ_mul]; omega), show (k + 1) * Rep.size α - cs.length = k * Rep.size α by rw [Nat.succ_mul]; omega]
theorem Own.take {α : Type} [Rep α] {B : Nat} {φ : Phi} {w : World} {E : TypeId} {a : Option Addr} {cap : Nat} {xs : List α} (h : Own B φ w E a cap xs) (k : Nat) : Own B φ w E a cap (xs.take k) := by
  obtain ⟨cells, ⟨h1, h2⟩, hr⟩ := h.row
  refine ⟨⟨cells.take (k * Rep.size α), ⟨?_, ?_⟩, hr.take k⟩, h.free⟩
  · have := (hr.take k).len
    exact this
  · rcases h2 with ⟨h2, h3⟩ | ⟨g, c, cur, hv, hbg, hg, hnc, hcm, hcs, ht⟩
    · have : xs = [] := List.eq_nil_of_length_eq_zero h3
      subst this
      rw [List.take_nil]
      exact .inl ⟨h2, rfl⟩
    · injection hv with e1 e2 e3
      subst e3
      refine .inr ⟨g, cap, cur, by rw [e1], hbg, hg, ?_, hcm, hcs, ?_⟩
      · rw [List.length_take]; omega
      · rw [← ht, List.take_take, List.length_take]
        congr 1
        rcases Nat.le_total k xs.length with q | q
        · rw [Nat.min_eq_left q, Nat.min_eq_left (Nat.mul_le_mul_right _ q)]
        · rw [Nat.min_eq_right q, Nat.min_eq_right (Nat.mul_le_mul_right _ q)]
/-- A number in a slice of the call's own. -/
def NatO (m : Nat) (φ : Phi) (w : World) (e : Ending) (w' : World) : Prop :=
  ∃ a c, e = .returned (.slice a (limbs m).length c) ∧ OwSt w φ 3 a c (limbs m) w'
theorem OwSt.trimI {w0 w : World} {φ : Phi} {E : TypeId} {a : Option Addr} {c : Nat} {xs : List Nat} (s : OwSt w0 φ E a c xs w) (h : Lim xs) {m : Nat} (hm : LV xs = m) : OwSt w0 φ E a c (limbs m) w := by
  subst hm
  obtain ⟨k, _, e⟩ := trim_take h
  rw [e]; exact ⟨s.inv, s.own.take k⟩
/-- One limb more of a multiple. -/
theorem scale_step {L A c c' q x d s K : Nat} (h1 : L + c * K = A * d) (h2 : s = x * d + c) (h3 : s = lb * c' + q) : L + K * q + c' * (K * lb) = (A + K * x) * d := by
  have h4 : K * (x * d + c) = K * (lb * c' + q) := by rw [← h2, h3]
  rw [Nat.mul_add, Nat.mul_add] at h4
  have h5 : c' * (K * lb) = K * (lb * c') := by rw [Nat.mul_comm c', Nat.mul_assoc]
  have h6 : K * c = c * K := Nat.mul_comm _ _
  have h7 : (A + K * x) * d = A * d + K * (x * d) := by rw [Nat.add_mul, Nat.mul_assoc]
  omega
set_option maxRecDepth 100000 in
set_option maxHeartbeats 4000000 in
theorem Rscaled_any {m d na : Nat} {a : Option Addr} {ca : Nat} {w : World} {φ : Phi} (hφ : Fz φ w) (sa : SlV φ a ca (limbs m)) (hna : Hid ((limbs m).length = na)) (h4a : na ≤ 2000000000) (hd : d < 1000000000) :
    Calls Tryz.prog 205 #[.slice a na ca, .int .i64 (d : Int)] w (NatO (m * d) φ w) := by
  have hS0 : Hid (OwSt w φ 3 none 0 ([] : List Nat) w) := Lib.hid ⟨Inv.start hφ, Own.nil _ _ _ _⟩
  have hLa : Hid (Lim (limbs m)) := Lib.hid (limbs_lim m)
  have hma : Hid (LV (limbs m) = m) := Lib.hid (LV_limbs m)
  generalize limbs m = A at *
  go_enter Tryz.func205, Tryz.ntmps205
  go_wp2
  go_loopw [5, 6, 7, 8, 11] (fun ov cv tv uv iv wr => ∃ (i c : Nat) (ao : Option Addr) (co : Nat) (os : List Nat), i ≤ na ∧ c < 1000000000 ∧ ov = .slice ao os.length co ∧ cv = .int .i64 (c : Int) ∧ iv = .int .i64 (i : Int) ∧ Hid (os.length = i) ∧ Hid (Lim os) ∧ Hid (LV os + c * lb ^ i = LV (A.take i) * d) ∧ Hid (OwSt w φ 3 ao co os wr)) (fun _ _ _ _ iv _ => na - (intOf iv).toNat)
  case atStart => exact ⟨0, 0, none, 0, [], by omega, by omega, rfl, rfl, rfl, Lib.hid rfl, Lib.hid (fun x hx => by simp at hx), Lib.hid (by simp [LV]), hS0⟩
  case round =>
    clear hS0
    obtain ⟨i, c, ao, co, os, hi, hc, rfl, rfl, rfl, hol, hoL, hinv, hS⟩ := hrel
    have hol4 : os.length ≤ 2000000001 := by rw [hol.out]; omega
    by_cases hia : i < na
    · obtain ⟨x, hx⟩ : ∃ x, Hid (A.getD i 0 = x) := ⟨_, Lib.hid rfl⟩
      have hxl : x < 1000000000 := by rw [← hx.out]; exact hLa.out.getD _
      obtain ⟨ba, oa, rfl, f⟩ := sa.natI hna hia
      obtain ⟨_, d1⟩ := f i hia wr hS.out.inv.fz
      rw [hx.out] at d1
      have hi1 : (i : Int) < (na : Int) := by omega
      obtain ⟨p, hp⟩ : ∃ p, p = x * d := ⟨_, rfl⟩
      have hpl : p ≤ 999999999 * 999999999 := by rw [hp]; exact Nat.mul_le_mul (by omega) (by omega)
      have hpi : (x : Int) * (d : Int) = (p : Int) := by rw [hp]; exact (Int.natCast_mul x d).symm
      obtain ⟨S, hSe⟩ : ∃ S, S = p + c := ⟨_, rfl⟩
      have hSl : S < 1000000000 * 1000000000 := by omega
      have hSm : Hid (((p : Int) + (c : Int)) % 1000000000 = ((S % lb : Nat) : Int)) := Lib.hid (by rw [hSe]; exact (Int.natCast_emod (p + c) lb).symm ▸ rfl)
      have hSd : Hid (((p : Int) + (c : Int)) / 1000000000 = ((S / lb : Nat) : Int)) := Lib.hid (by rw [hSe]; exact (Int.natCast_ediv (p + c) lb).symm ▸ rfl)
      have hq9 : S % lb < lb := Nat.mod_lt _ lb_pos
      have hc9 : S / lb < 1000000000 := (Nat.div_lt_iff_lt_mul lb_pos).2 hSl
      have hnext : Hid (LV (os ++ [S % lb]) + S / lb * lb ^ (i + 1) = LV (A.take (i + 1)) * d) := Lib.hid (by
        rw [LV_take, hx.out, LV_snoc, hol.out, Nat.pow_succ]
        exact scale_step hinv.out (by rw [hSe, hp]) (Nat.div_add_mod S lb).symm)
      have hin := Lib.hid hS.out.inv
      have hon := Lib.hid hS.out.own
      clear f hp hSe hS
      go_wp2_with (at_builtin; (refine wpList_app1F (α := Nat) rfl _ _ 53 rfl slNatI hin.out ao co _ hon.out _ _ (S % lb) (by show [Value.int .i64 (((p : Int) + (c : Int)) % 1000000000)] = [Value.int .i64 ((S % lb : Nat) : Int)]; rw [hSm.out]) rfl 1 rfl (by omega) ?_; intro a8 c8 w8 hi8 ho8 hg8 hf8))
      rw [hSd.out]
      go_roundw
      case rel => exact ⟨i + 1, S / lb, a8, c8, os ++ [S % lb], by omega, hc9, by simp, rfl, by go_num, Lib.hid (by rw [List.length_append, hol.out]; rfl), Lib.hid (hoL.out.append (Lim.one hq9)), hnext, Lib.hid ⟨hi8, ho8⟩⟩
      case measure => simp [intOf]; omega
    · obtain rfl : i = na := by omega
      have hil : ¬ (i : Int) < (i : Int) := by omega
      have hE : Hid (LV os + c * lb ^ os.length = m * d) := Lib.hid (by
        have h := hinv.out
        rw [List.take_of_length_le (by rw [hna.out]; exact Nat.le_refl _), hma.out] at h
        rw [hol.out]; exact h)
      clear hinv hol
      go_wp2
      go_loopw [5, 6] (fun ov cv wr => ∃ (c : Nat) (ao : Option Addr) (co : Nat) (os : List Nat), c < 1000000000 ∧ os.length ≤ 2000000002 ∧ (0 < c → os.length ≤ 2000000001) ∧ ov = .slice ao os.length co ∧ cv = .int .i64 (c : Int) ∧ Hid (Lim os) ∧ Hid (LV os + c * lb ^ os.length = m * d) ∧ Hid (OwSt w φ 3 ao co os wr)) (fun _ cv _ => (intOf cv).toNat)
      case atStart => exact ⟨c, ao, co, os, hc, by omega, fun _ => hol4, rfl, rfl, hoL, hE, hS⟩
      case round =>
        clear hS hE hoL hol4 hc
        obtain ⟨c, ao, co, os, hc, hol, hol2, rfl, rfl, hoL, hE, hS⟩ := hrel
        by_cases hc0 : 0 < c
        · have hci : (0 : Int) < (c : Int) := by omega
          have hol3 := hol2 hc0
          have hmod : Hid ((c : Int) % 1000000000 = (c : Int)) := Lib.hid (by omega)
          have hdiv : Hid ((c : Int) / 1000000000 = ((0 : Nat) : Int)) := Lib.hid (by omega)
          have hnext : Hid (LV (os ++ [c]) + 0 * lb ^ (os ++ [c]).length = m * d) := Lib.hid (by
            rw [LV_snoc, Nat.zero_mul, Nat.add_zero, Nat.mul_comm]; exact hE.out)
          have hin := Lib.hid hS.out.inv
          have hon := Lib.hid hS.out.own
          clear hS hE
          go_wp2_with (at_builtin; (refine wpList_app1F (α := Nat) rfl _ _ 53 rfl slNatI hin.out ao co _ hon.out _ _ c (by show [Value.int .i64 ((c : Int) % 1000000000)] = [Value.int .i64 (c : Int)]; rw [hmod.out]) rfl 1 rfl (by omega) ?_; intro a8 c8 w8 hi8 ho8 hg8 hf8))
          rw [hdiv.out]
          go_roundw
          case rel => exact ⟨0, a8, c8, os ++ [c], by omega, by simp; omega, fun h => by omega, by simp, rfl, Lib.hid (hoL.out.append (Lim.one hc)), hnext, Lib.hid ⟨hi8, ho8⟩⟩
          case measure => simp [intOf]; omega
        · obtain rfl : c = 0 := by omega
          have hfin : Hid (LV os = m * d) := Lib.hid (by have := hE.out; rwa [Nat.zero_mul, Nat.add_zero] at this)
          obtain ⟨φ', _, hi', hs, _⟩ := hS.out.own.release hS.out.inv
          have HS' := Lib.hid hs
          have HI' := Lib.hid hi'
          obtain ⟨ol, hol2'⟩ : ∃ ol, ol = os.length := ⟨_, rfl⟩
          rw [← hol2']
          have hoL2 : Hid (os.length = ol) := Lib.hid hol2'.symm
          have hol5 : ol ≤ 4000000001 := by omega
          clear hi' hs hol2' hol2
          obtain ⟨q, hq⟩ : ∃ q, Hid ((limbs (LV os)).length = q) := ⟨_, Lib.hid rfl⟩
          go_wp2_with (go_at_call 135; refine (Rtrim_any HI'.out.fz HS'.out hoL2 (by omega) hoL hq).mono ?_; rintro e w' ⟨rfl, rfl⟩)
          go_ret
          refine ⟨ao, co, ?_, hS.out.trimI hoL.out hfin.out⟩
          rw [← hfin.out, hq.out]; rfl
end Go.Proofs.YtnlhalnjbkpdnaaGreatDoor

namespace Go.Proofs.YtnlhalnjbkpdnaaGreatDoor
open Go.RowKit
set_option linter.unusedVariables false
set_option linter.unusedSimpArgs false
theorem Dig.top_le {k U v top v1 v2 nx : Nat} (h : Dig k U v top v1 v2 nx) : top ≤ v1 * lb + v2 := by
  obtain ⟨r, hr, eU⟩ := h.lowU
  obtain ⟨s, hs, ev⟩ := h.lowv
  have h1 : lb ^ k * (top * lb + nx) < lb ^ k * ((v1 * lb + v2 + 1) * lb) := by
    have h2 : v * lb ≤ (lb ^ k * (v1 * lb + v2 + 1)) * lb := Nat.mul_le_mul_right _ (by rw [Nat.mul_succ]; omega)
    have h3 := h.lt
    rw [Nat.mul_assoc] at h2
    omega
  have h2 := Nat.lt_of_mul_lt_mul_left h1
  have h3 : top * lb < (v1 * lb + v2 + 1) * lb := by omega
  have := Nat.lt_of_mul_lt_mul_right h3
  omega
/-- A guess behind whose rest a whole limb stands is small. -/
theorem Dig.small {k U v top v1 v2 nx g r : Nat} (h : Dig k U v top v1 v2 nx) (e : g * v1 + r = top) (hr : lb ≤ r) : g < lb := by
  have h1 := h.top_le
  have h2 := h.v2l
  have h3 : g * v1 < lb * v1 := by rw [Nat.mul_comm lb]; omega
  exact Nat.lt_of_mul_lt_mul_right h3
theorem tm_r {top g v1 v2 nx r : Nat} (e : g * v1 + r = top) : tmB top g v1 v2 nx = decide (r < lb ∧ r * lb + nx < g * v2) := by
  unfold tmB
  rw [show top - g * v1 = r by omega]
/-- What guess gives. -/
def GueP (U v : Nat) (w : World) (e : Ending) (w' : World) : Prop := ∃ gq : Nat, e = .returned (.int .i64 (gq : Int)) ∧ U / v ≤ gq ∧ gq ≤ U / v + 1 ∧ gq < lb ∧ Below w.heap.size w w'
theorem dec_eq {g v1 r top : Nat} (h : g * v1 + r = top) (hg : 0 < g) : (g - 1) * v1 + (r + v1) = top := by
  obtain ⟨g', rfl⟩ : ∃ g', g = g' + 1 := ⟨g - 1, by omega⟩
  rw [Nat.succ_mul] at h
  rw [Nat.add_sub_cancel]; omega
set_option maxRecDepth 100000 in
set_option maxHeartbeats 4000000 in
theorem Rguess_any {g cu k j v N : Nat} {us V : List Nat} {b : Option Addr} {cb : Nat} {w0 w : World} {φ : Phi} (h : Hid (OwSt w0 φ 3 (some ⟨g, 0, none⟩) cu us w)) (hN : Hid (us.length = N)) (hN4 : N ≤ 4000000000) (hj : j + (k + 2) + 1 ≤ N) (hL : Hid (Lim us)) (sv : SlV φ b cb V) (hLV : Hid (Lim V)) (hv : Hid (LV V = v)) (hV : Hid (V.length = k + 2)) (h0 : Hid (V.getD (k + 1) 0 ≠ 0)) (hlt : Hid (LV ((us.drop j).take (k + 3)) < v * lb)) :
    Calls Tryz.prog 206 #[.slice (some ⟨g, 0, none⟩) N cu, .slice b (k + 2) cb, .int .i64 (j : Int)] w (GueP (LV ((us.drop j).take (k + 3))) v w) := by
  have D := Lib.hid (dig_of hL.out hLV.out hv.out hV.out h0.out (by rw [hN.out]; omega) hlt.out)
  obtain ⟨U, hU⟩ : ∃ U, Hid (LV ((us.drop j).take (k + 3)) = U) := ⟨_, Lib.hid rfl⟩
  rw [hU.out] at D ⊢
  obtain ⟨q, hq⟩ : ∃ q, Hid (U / v = q) := ⟨_, Lib.hid rfl⟩
  obtain ⟨n, hn⟩ : ∃ n, Hid (k + 2 = n) := ⟨_, Lib.hid rfl⟩
  have hn2 : 2 ≤ n := by rw [← hn.out]; omega
  have e1 : k + 1 = n - 1 := by rw [← hn.out]; rfl
  have e0 : k = n - 2 := by rw [← hn.out]; rfl
  rw [hn.out, e1] at D
  rw [hn.out] at hj hV ⊢
  clear e1 h0
  obtain ⟨gg, hga, hgl, fo⟩ := h.out.own.natI hN (k := j) (by omega)
  cases hga
  obtain ⟨x2, hx2⟩ : ∃ x, Hid (us.getD (j + n) 0 = x) := ⟨_, Lib.hid rfl⟩
  obtain ⟨x1, hx1⟩ : ∃ x, Hid (us.getD (j + (n - 1)) 0 = x) := ⟨_, Lib.hid rfl⟩
  obtain ⟨x0, hx0⟩ : ∃ x, Hid (us.getD (j + k) 0 = x) := ⟨_, Lib.hid rfl⟩
  obtain ⟨v1, hv1⟩ : ∃ x, Hid (V.getD (n - 1) 0 = x) := ⟨_, Lib.hid rfl⟩
  obtain ⟨v2, hv2⟩ : ∃ x, Hid (V.getD k 0 = x) := ⟨_, Lib.hid rfl⟩
  have bx2 : x2 < 1000000000 := by rw [← hx2.out]; exact hL.out.getD _
  have bx1 : x1 < 1000000000 := by rw [← hx1.out]; exact hL.out.getD _
  have bx0 : x0 < 1000000000 := by rw [← hx0.out]; exact hL.out.getD _
  have bv1 : v1 < 1000000000 := by rw [← hv1.out]; exact hLV.out.getD _
  have bv2 : v2 < 1000000000 := by rw [← hv2.out]; exact hLV.out.getD _
  rw [hx2.out, hx1.out, hx0.out, hv1.out, hv2.out] at D
  have pv1 := D.out.v1p
  obtain ⟨bb, ob, rfl, f⟩ := sv.natI hV (k := 0) (by omega)
  have hD1 := Lib.hid (fun W (hf : Fz φ W) => (f (n - 1) (by omega) W hf).2)
  have hD2 := Lib.hid (fun W (hf : Fz φ W) => (f k (by omega) W hf).2)
  rw [hv1.out] at hD1
  rw [hv2.out] at hD2
  rw [e0] at hD2
  have hC := Lib.hid (fun W (hW : OwSt w0 φ 3 (some ⟨g, 0, none⟩) cu us W) (i : Nat) (hi : i < N) => (by
    obtain ⟨gg, hga, hgl, fo⟩ := hW.own.natI hN hi
    cases hga
    exact (fo i hi).1 : W.cell? ⟨g, i, none⟩ = some (.int .i64 ((us.getD i 0 : Nat) : Int))))
  have c2 := hC.out w h.out (j + n) (by omega)
  have c1 := hC.out w h.out (j + (n - 1)) (by omega)
  have hC0 := Lib.hid (fun W (hW : OwSt w0 φ 3 (some ⟨g, 0, none⟩) cu us W) => hC.out W hW (j + k) (by omega))
  rw [hx2.out] at c2
  rw [hx1.out] at c1
  rw [hx0.out, e0] at hC0
  have d1 := hD1.out w h.out.inv.fz
  obtain ⟨top, htop⟩ : ∃ t, t = x2 * lb + x1 := ⟨_, rfl⟩
  have ht18 : top < 1000000000000000000 := by rw [htop]; show x2 * 1000000000 + x1 < _; omega
  have hti : (x2 : Int) * 1000000000 + (x1 : Int) = (top : Int) := by rw [htop]; show _ = ((x2 * 1000000000 + x1 : Nat) : Int); omega
  rw [← htop] at D
  have hst : Hid (q ≤ top / v1) := Lib.hid (by rw [← hq.out]; exact (Nat.le_div_iff_mul_le D.out.v1p).2 D.out.q_top)
  have hjn : Hid ((j : Int) + (n : Int) = ((j + n : Nat) : Int)) := Lib.hid (by omega)
  have hx1i : (0 : Int) ≤ (n : Int) - 1 := by omega
  have hx3i : (n : Int) - 1 < n := by omega
  have hto1 : ((n : Int) - 1).toNat = n - 1 := by omega
  have hx1j : (0 : Int) ≤ (n : Int) - 2 := by omega
  have hx3j : (n : Int) - 2 < n := by omega
  have hto2 : ((n : Int) - 2).toNat = n - 2 := by omega
  have hk1 : (0 : Int) ≤ (j : Int) + (n : Int) := by omega
  have hk2 : (j : Int) + (n : Int) < N := by omega
  have hk3 : ((j : Int) + (n : Int)).toNat = j + n := by omega
  have hk4 : (0 : Int) ≤ (j : Int) + (n : Int) - 1 := by omega
  have hk5 : (j : Int) + (n : Int) - 1 < N := by omega
  have hk6 : ((j : Int) + (n : Int) - 1).toNat = j + (n - 1) := by omega
  have hk7 : (0 : Int) ≤ (j : Int) + (n : Int) - 2 := by omega
  have hk8 : (j : Int) + (n : Int) - 2 < N := by omega
  have hk9 : ((j : Int) + (n : Int) - 2).toNat = j + (n - 2) := by omega
  have hv1z : ((v1 : Int) == 0) = false := by simp; omega
  have HTI := Lib.hid hti
  clear htop hti fo f e0
  have hgq : Hid ((top : Int) / (v1 : Int) = ((top / v1 : Nat) : Int)) := Lib.hid rfl
  have hgr : Hid ((top : Int) % (v1 : Int) = ((top % v1 : Nat) : Int)) := Lib.hid rfl
  have hq18 : top / v1 ≤ top := Nat.div_le_self _ _
  have hr9 : top % v1 < 1000000000 := Nat.lt_trans (Nat.mod_lt _ pv1) bv1
  have hTE : Hid (top / v1 * v1 + top % v1 = top) := Lib.hid (by rw [Nat.mul_comm]; exact Nat.div_add_mod top v1)
  obtain ⟨g0, hg0⟩ : ∃ g0, Hid (top / v1 = g0) := ⟨_, Lib.hid rfl⟩
  obtain ⟨r0, hr0⟩ : ∃ r0, Hid (top % v1 = r0) := ⟨_, Lib.hid rfl⟩
  rw [hg0.out] at hgq hst hq18 hTE
  rw [hr0.out] at hgr hr9 hTE
  go_enter Tryz.func206, Tryz.ntmps206
  go_wp2
  go_quiet (fail)
  go_wp2
  all_goals rw [HTI.out, hgq.out, hgr.out]
  rename Nat => nq0
  go_loopw [9, 10] (fun qv rv wr => ∃ gq r : Nat, qv = .int .i64 (gq : Int) ∧ rv = .int .i64 (r : Int) ∧ Hid (gq * v1 + r = top) ∧ Hid (r < 1000000000) ∧ Hid (q ≤ gq) ∧ Hid (gq < 1000000000000000000) ∧ Hid (OwSt w0 φ 3 (some ⟨g, 0, none⟩) cu us wr) ∧ Hid (Below w.heap.size w wr)) (fun qv _ _ => (intOf qv).toNat)
  case atStart => exact ⟨g0, r0, rfl, rfl, hTE, Lib.hid hr9, hst, Lib.hid (by omega), Lib.hid (h.out.drewN _), Lib.hid (bdrewN (Below.refl _ _) _)⟩
  case round =>
    clear hTE hst hgq hgr c1 c2 d1
    obtain ⟨gq, r, rfl, rfl, hE, hrh, hqgh, hg18, hS, hB⟩ := hrel
    have hr := hrh.out
    have hqg := hqgh.out
    have c0 := hC0.out wr hS.out
    have d1 := hD1.out wr hS.out.inv.fz
    have d2 := hD2.out wr hS.out.inv.fz
    have hqL : q < 1000000000 := by rw [← hq.out]; exact D.out.q_lt
    by_cases hge : 1000000000 ≤ gq
    · have hgi : (1000000000 : Int) ≤ (gq : Int) := by omega
      have hqd : q ≤ gq - 1 := by omega
      have hgp : 0 < gq := by omega
      have hE2 := Lib.hid (dec_eq hE.out hgp)
      have hge2 : decide ((1000000000 : Int) ≤ (gq : Int)) = true := decide_eq_true hgi
      have hr2 : (r : Int) + (v1 : Int) ≤ 2000000000 := by omega
      obtain ⟨g2, hg2e⟩ : ∃ g2, g2 = gq - 1 := ⟨_, rfl⟩
      have hgm2 : (gq : Int) - 1 = (g2 : Int) := by omega
      have hgm3 : IntKind.i64.wrap (g2 : Int) = (g2 : Int) := by have := hg18.out; exact IntWalk.i64_in _ (by omega)
      have hgm : Hid (((gq - 1 : Nat) : Int) = (g2 : Int)) := Lib.hid (by omega)
      by_cases hrr : r + v1 < 1000000000
      · obtain ⟨r2, hr2e⟩ : ∃ r2, r2 = r + v1 := ⟨_, rfl⟩
        have hr2i : (r : Int) + (v1 : Int) = (r2 : Int) := by omega
        have hri : decide ((1000000000 : Int) ≤ (r2 : Int)) = false := decide_eq_false (by omega)
        rw [← hr2e] at hE2 hrr
        rw [← hg2e] at hE2 hqd
        have HG2 := Lib.hid hg2e
        clear hr2e hr2 hg2e
        have HRR := Lib.hid hrr
        have HQD := Lib.hid hqd
        clear hrr hqd hqg hqL hge
        go_wp2
        go_quiet (fail)
        go_wp2
        go_roundw
        case rel => exact ⟨g2, r2, rfl, rfl, hE2, HRR, HQD, Lib.hid (by have := hg18.out; have := HG2.out; omega), Lib.hid (hS.out.drewN _), Lib.hid (hB.out.trans ((bdrewN (Below.refl _ _) _).mono hB.out.size))⟩
        case measure =>
          have := HG2.out
          simp only [intOf]
          omega
      · have hri : (r : Int) + (v1 : Int) ≥ 1000000000 := by omega
        have hsm : gq - 1 < lb := D.out.small hE2.out (by show 1000000000 ≤ r + v1; omega)
        have hs1 := D.out.stop (g := gq - 1) (by have := hE2.out; omega) hsm (.inr (by rw [tm_r hE2.out]; exact decide_eq_false (fun h => by have : r + v1 < 1000000000 := h.1; omega)))
        rw [hq.out] at hs1
        have HS1 := Lib.hid hs1
        clear hs1 hg2e
        go_wp2
        go_quiet (fail)
        go_wp2
        go_ret
        exact ⟨gq - 1, congrArg (fun z => Ending.returned (.int .i64 z)) hgm.out.symm, by rw [hq.out]; exact hqd, by rw [hq.out]; exact HS1.out, hsm, hB.out.trans ((bdrewN (Below.refl _ _) _).mono hB.out.size)⟩
    · have hgi : ¬ (1000000000 : Int) ≤ (gq : Int) := by omega
      have hge2 : decide ((1000000000 : Int) ≤ (gq : Int)) = false := decide_eq_false hgi
      obtain ⟨p, hp⟩ : ∃ p, p = gq * v2 := ⟨_, rfl⟩
      have hpl : p ≤ 999999999 * 999999999 := by rw [hp]; exact Nat.mul_le_mul (by omega) (by omega)
      have hpi : (gq : Int) * (v2 : Int) = (p : Int) := by rw [hp]; exact (Int.natCast_mul gq v2).symm
      by_cases hgt : r * 1000000000 + x0 < p
      · have hgti : (r : Int) * 1000000000 + (x0 : Int) < (p : Int) := by omega
        have hgt2 : decide ((r : Int) * 1000000000 + (x0 : Int) < (p : Int)) = true := decide_eq_true hgti
        have hgp : 0 < gq := by
          rcases Nat.eq_zero_or_pos gq with z | z
          · rw [z, Nat.zero_mul] at hp; omega
          · exact z
        have hnx := (D.out.next (g := gq) (by have := hE.out; omega) (by rw [hq.out]; exact hqg) (by rw [tm_r hE.out]; exact decide_eq_true ⟨by show r < 1000000000; exact hr, by show r * 1000000000 + x0 < gq * v2; rw [← hp]; exact hgt⟩)).1
        rw [hq.out] at hnx
        have hqd : q ≤ gq - 1 := hnx
        have hE2 := Lib.hid (dec_eq hE.out hgp)
        clear hp hnx
        have hr2 : (r : Int) + (v1 : Int) ≤ 2000000000 := by omega
        obtain ⟨g2, hg2e⟩ : ∃ g2, g2 = gq - 1 := ⟨_, rfl⟩
        have hgm2 : (gq : Int) - 1 = (g2 : Int) := by omega
        have hgm3 : IntKind.i64.wrap (g2 : Int) = (g2 : Int) := by have := hg18.out; exact IntWalk.i64_in _ (by omega)
        have hgm : Hid (((gq - 1 : Nat) : Int) = (g2 : Int)) := Lib.hid (by omega)
        by_cases hrr : r + v1 < 1000000000
        · obtain ⟨r2, hr2e⟩ : ∃ r2, r2 = r + v1 := ⟨_, rfl⟩
          have hr2i : (r : Int) + (v1 : Int) = (r2 : Int) := by omega
          have hri : decide ((1000000000 : Int) ≤ (r2 : Int)) = false := decide_eq_false (by omega)
          rw [← hr2e] at hE2 hrr
          rw [← hg2e] at hE2 hqd
          have HG2 := Lib.hid hg2e
          clear hr2e hr2 hg2e
          have HRR := Lib.hid hrr
          have HQD := Lib.hid hqd
          clear hrr hqd hqg hqL hge
          go_wp2
          go_quiet (fail)
          go_wp2
          go_roundw
          case rel => exact ⟨g2, r2, rfl, rfl, hE2, HRR, HQD, Lib.hid (by have := hg18.out; have := HG2.out; omega), Lib.hid (hS.out.drewN _), Lib.hid (hB.out.trans ((bdrewN (Below.refl _ _) _).mono hB.out.size))⟩
          case measure =>
            have := HG2.out
            simp only [intOf]
            omega
        · have hri : (r : Int) + (v1 : Int) ≥ 1000000000 := by omega
          have hsm : gq - 1 < lb := D.out.small hE2.out (by show 1000000000 ≤ r + v1; omega)
          have hs1 := D.out.stop (g := gq - 1) (by have := hE2.out; omega) hsm (.inr (by rw [tm_r hE2.out]; exact decide_eq_false (fun h => by have : r + v1 < 1000000000 := h.1; omega)))
          rw [hq.out] at hs1
          have HS1 := Lib.hid hs1
          clear hs1 hg2e
          go_wp2
          go_quiet (fail)
          go_wp2
          go_ret
          exact ⟨gq - 1, congrArg (fun z => Ending.returned (.int .i64 z)) hgm.out.symm, by rw [hq.out]; exact hqd, by rw [hq.out]; exact HS1.out, hsm, hB.out.trans ((bdrewN (Below.refl _ _) _).mono hB.out.size)⟩
      · have hgti : ¬ (r : Int) * 1000000000 + (x0 : Int) < (p : Int) := by omega
        have hgt2 : decide ((r : Int) * 1000000000 + (x0 : Int) < (p : Int)) = false := decide_eq_false hgti
        have hs1 := D.out.stop (g := gq) (by have := hE.out; omega) (by show gq < 1000000000; omega) (.inr (by rw [tm_r hE.out]; exact decide_eq_false (fun h => hgt (by rw [hp]; exact h.2))))
        rw [hq.out] at hs1
        have HS1 := Lib.hid hs1
        clear hp hs1
        go_wp2
        go_quiet (fail)
        go_wp2
        go_ret
        exact ⟨gq, rfl, by rw [hq.out]; exact hqg, by rw [hq.out]; exact HS1.out, by show gq < 1000000000; omega, hB.out.trans ((bdrewN (Below.refl _ _) _).mono hB.out.size)⟩
end Go.Proofs.YtnlhalnjbkpdnaaGreatDoor

namespace Go.Proofs.YtnlhalnjbkpdnaaGreatDoor
open Go.RowKit
set_option linter.unusedVariables false
set_option linter.unusedSimpArgs false
/-- What give gives. -/
def GivP (w0 : World) (φ : Phi) (g cu : Nat) (us : List Nat) (j n r : Nat) (e : Ending) (w' : World) : Prop :=
  ∃ us', e = .returned (.tuple #[]) ∧ WinO us us' j n ∧ LV ((us'.drop j).take (n + 1)) = r ∧ OwSt w0 φ 3 (some ⟨g, 0, none⟩) cu us' w'
set_option maxRecDepth 100000 in
set_option maxHeartbeats 4000000 in
theorem Rgive_any {g cu n j v N r A : Nat} {us V : List Nat} {b : Option Addr} {cb : Nat} {w0 w : World} {φ : Phi} (h : Hid (OwSt w0 φ 3 (some ⟨g, 0, none⟩) cu us w)) (hN : Hid (us.length = N)) (hN4 : N ≤ 4000000000) (hj : j + n + 1 ≤ N) (hL : Hid (Lim us)) (sv : SlV φ b cb V) (hLV : Hid (Lim V)) (hv : Hid (LV V = v)) (hV : Hid (V.length = n)) (hA : Hid (LV ((us.drop j).take (n + 1)) = A)) (hr : Hid (A + v = lb ^ (n + 1) + r)) (hrv : Hid (r < v)) :
    Calls Tryz.prog 208 #[.slice (some ⟨g, 0, none⟩) N cu, .slice b n cb, .int .i64 (j : Int)] w (GivP w0 φ g cu us j n r) := by
  have hvM : Hid (v ≤ lb ^ (n + 1)) := Lib.hid (by
    have h1 := LV_lt hLV.out
    rw [hv.out, hV.out] at h1
    exact Nat.le_trans (Nat.le_of_lt h1) (Nat.pow_le_pow_right lb_pos (by omega)))
  go_enter Tryz.func208, Tryz.ntmps208
  go_wp2
  go_loopw [6, 7, 8] (fun cv iv sv2 wr => ∃ (i c : Nat) (us' : List Nat), i ≤ n + 1 ∧ c ≤ 1 ∧ cv = .int .i64 (c : Int) ∧ iv = .int .i64 (i : Int) ∧ Hid (AddI us us' V j n i c) ∧ Hid (OwSt w0 φ 3 (some ⟨g, 0, none⟩) cu us' wr)) (fun _ iv _ _ => n + 1 - (intOf iv).toNat)
  case atStart => exact ⟨0, 0, us, by omega, by omega, rfl, rfl, Lib.hid (AddI.start hL.out V j n), h⟩
  case round =>
    clear h
    obtain ⟨i, c, us', hi, hc, rfl, rfl, hI, hSi⟩ := hrel
    rename World => wi
    have hN' : Hid (us'.length = N) := Lib.hid (by rw [hI.out.win.len]; exact hN.out)
    by_cases hin : i ≤ n
    · have hini : (i : Int) ≤ (n : Int) := by omega
      obtain ⟨u, hu⟩ : ∃ u, Hid (us'.getD (j + i) 0 = u) := ⟨_, Lib.hid rfl⟩
      obtain ⟨gg, hga, hgl, fo⟩ := hSi.out.own.natI hN' (k := j + i) (by omega)
      cases hga
      obtain ⟨c1, c2, c3⟩ := fo (j + i) (by omega)
      rw [hu.out] at c1
      have hul : u < 1000000000 := by rw [← hu.out]; exact hI.out.win.lim.getD _
      have hk1 : (0 : Int) ≤ (i : Int) + (j : Int) := by omega
      have hk2 : (i : Int) + (j : Int) < N := by omega
      have hk3 : ((i : Int) + (j : Int)).toNat = j + i := by omega
      by_cases hlt : i < n
      · have hlti : (i : Int) < (n : Int) := by omega
        obtain ⟨bb, ob, rfl, f⟩ := sv.natI hV (k := i) hlt
        have d2 := (f i hlt wi hSi.out.inv.fz).2
        obtain ⟨y, hy⟩ : ∃ y, Hid (V.getD i 0 = y) := ⟨_, Lib.hid rfl⟩
        have hyl : y < 1000000000 := by rw [← hy.out]; exact hLV.out.getD _
        rw [hy.out] at d2
        have hSe : Hid (u + c + y = u + c + V.getD i 0) := Lib.hid (by rw [hy.out])
        clear f
        have hsl : u + c + y < 2000000000 := by omega
        have hSm : Hid (((u : Int) + (c : Int) + (y : Int)) % 1000000000 = (((u + c + y) % lb : Nat) : Int)) := Lib.hid (by show _ = (((u + c + y) % 1000000000 : Nat) : Int); omega)
        have hSd : Hid (((u : Int) + (c : Int) + (y : Int)) / 1000000000 = (((u + c + y) / lb : Nat) : Int)) := Lib.hid (by show _ = (((u + c + y) / 1000000000 : Nat) : Int); omega)
        have hc1 : (u + c + y) / lb ≤ 1 := by show (u + c + y) / 1000000000 ≤ 1; omega
        have HS2 := Lib.hid (c3 ((u + c + y) % lb) w0 φ hSi.out.inv)
        clear fo c3
        go_wp2
        rw [hSm.out, hSd.out]
        go_roundw
        case rel => exact ⟨i + 1, (u + c + y) / lb, us'.set (j + i) ((u + c + y) % lb), by omega, hc1, rfl, by go_num, Lib.hid (hI.out.next (by rw [hN.out]; exact hj) hin hu.out hSe.out), Lib.hid ⟨HS2.out.2, HS2.out.1⟩⟩
        case measure => (simp [intOf] <;> omega)
      · have hlti : ¬ (i : Int) < (n : Int) := by omega
        have hSe : Hid (u + c = u + c + V.getD i 0) := Lib.hid (by
          rw [List.getD_eq_getElem?_getD, List.getElem?_eq_none (by rw [hV.out]; omega)]; rfl)
        have hsl : u + c < 2000000000 := by omega
        have hSm : Hid (((u : Int) + (c : Int)) % 1000000000 = (((u + c) % lb : Nat) : Int)) := Lib.hid (by show _ = (((u + c) % 1000000000 : Nat) : Int); omega)
        have hSd : Hid (((u : Int) + (c : Int)) / 1000000000 = (((u + c) / lb : Nat) : Int)) := Lib.hid (by show _ = (((u + c) / 1000000000 : Nat) : Int); omega)
        have hc1 : (u + c) / lb ≤ 1 := by show (u + c) / 1000000000 ≤ 1; omega
        have HS2 := Lib.hid (c3 ((u + c) % lb) w0 φ hSi.out.inv)
        clear fo c3
        go_wp2
        rw [hSm.out, hSd.out]
        go_roundw
        case rel => exact ⟨i + 1, (u + c) / lb, us'.set (j + i) ((u + c) % lb), by omega, hc1, rfl, by go_num, Lib.hid (hI.out.next (by rw [hN.out]; exact hj) hin hu.out hSe.out), Lib.hid ⟨HS2.out.2, HS2.out.1⟩⟩
        case measure => (simp [intOf] <;> omega)
    · obtain rfl : i = n + 1 := by omega
      have hini : ¬ (((n + 1 : Nat) : Int)) ≤ (n : Int) := by omega
      have hE := hI.out.eq
      rw [List.take_of_length_le (l := V) (by rw [hV.out]; omega), hv.out, hA.out] at hE
      have hB := Lib.hid (add_end hE hr.out (win_lt hI.out.win.lim (by rw [hI.out.win.len, hN.out]; exact hj)) (Nat.lt_of_lt_of_le hrv.out hvM.out))
      clear hE
      go_wp2
      go_end0
      exact ⟨us', rfl, hI.out.win, hB.out, hSi.out⟩
end Go.Proofs.YtnlhalnjbkpdnaaGreatDoor

namespace Go.Proofs.YtnlhalnjbkpdnaaGreatDoor
open Go.RowKit
set_option linter.unusedVariables false
set_option linter.unusedSimpArgs false
/-- What take gives. -/
def TakP (w0 : World) (φ : Phi) (g cu : Nat) (us : List Nat) (j n gq U v : Nat) (e : Ending) (w' : World) : Prop :=
  ∃ us' bad, e = .returned (.bool bad) ∧ WinO us us' j n ∧ (bad = false → gq = U / v ∧ LV ((us'.drop j).take (n + 1)) = U % v) ∧ (bad = true → gq = U / v + 1 ∧ LV ((us'.drop j).take (n + 1)) + v = lb ^ (n + 1) + U % v) ∧ OwSt w0 φ 3 (some ⟨g, 0, none⟩) cu us' w'
/-- A borrow that lifts a digit above 0. -/
theorem ceil_facts {E u s cc dg : Nat} (hE : E = s - u) (hlt : u < s) (hu : u < 1000000000) (hc : cc = (E + 999999999) / 1000000000) (hd : dg = u + cc * 1000000000 - s) : dg + s = u + (s / 1000000000 + (cc - s / 1000000000)) * 1000000000 ∧ dg < 1000000000 ∧ s / 1000000000 + (cc - s / 1000000000) = cc := by
  have h1 : E + 999999999 < (cc + 1) * 1000000000 := by omega
  have h2 : cc * 1000000000 ≤ E + 999999999 := by omega
  clear hc
  have h3 : s / 1000000000 ≤ cc := by
    have : s < (cc + 1) * 1000000000 := by omega
    exact Nat.le_of_lt_succ ((Nat.div_lt_iff_lt_mul (by decide)).2 this)
  have h4 : s / 1000000000 + (cc - s / 1000000000) = cc := by omega
  rw [h4]
  clear h3 h4
  refine ⟨by omega, by omega, rfl⟩
theorem ceil_lb {E u s cc dg : Nat} (hE : E = s - u) (hlt : u < s) (hu : u < 1000000000) (hc : cc = (E + 999999999) / 1000000000) (hd : dg = u + cc * 1000000000 - s) : dg + s = u + (s / lb + (cc - s / lb)) * lb ∧ dg < lb ∧ s / lb + (cc - s / lb) = cc := by
  have e : lb = 1000000000 := rfl
  rw [e]
  exact ceil_facts hE hlt hu hc hd
theorem take_facts {E u s cc dg : Nat} (hE : E = s - u) (hlt : u < s) (hu : u < 1000000000) (hs : s ≤ 999999999 * 999999999 + 1000000000) (hc : cc = (E + 999999999) / 1000000000) (hd : dg = u + cc * 1000000000 - s) : ((E : Int) + 1000000000 - 1) / 1000000000 = (cc : Int) ∧ cc ≤ 1000000000 ∧ (u : Int) - (s : Int) + (cc : Int) * 1000000000 = (dg : Int) ∧ dg < 1000000000 := by
  have hf := (ceil_facts hE hlt hu hc hd).2.1
  have h1 : E + 999999999 < (cc + 1) * 1000000000 := by omega
  have h2 : cc * 1000000000 ≤ E + 999999999 := by omega
  refine ⟨by omega, ?_, ?_, hf⟩
  · clear hc hd hf
    omega
  · clear hc
    omega
theorem take_bds {E u s cc dg : Nat} {D : Int} (hE : E = s - u) (hlt : u < s) (hu : u < 1000000000) (hs : s ≤ 999999999 * 999999999 + 1000000000) (hD : D = (u : Int) - (s : Int)) (hc : cc ≤ 1000000000) (hd : dg < 1000000000) :
    (decide (D < 0) = true ∧ -D = (E : Int)) ∧ (-9223372036854775808 ≤ D ∧ D ≤ 9223372036854775807) ∧ (-9223372036854775808 ≤ (E : Int) ∧ (E : Int) ≤ 9223372036854775807) ∧ (-9223372036854775808 ≤ (E : Int) + 1000000000 ∧ (E : Int) + 1000000000 ≤ 9223372036854775807) ∧ (-9223372036854775808 ≤ (E : Int) + 1000000000 - 1 ∧ (E : Int) + 1000000000 - 1 ≤ 9223372036854775807) ∧ (-9223372036854775808 ≤ (cc : Int) * 1000000000 ∧ (cc : Int) * 1000000000 ≤ 9223372036854775807) ∧ (-9223372036854775808 ≤ (dg : Int) ∧ (dg : Int) ≤ 9223372036854775807) := by
  refine ⟨⟨decide_eq_true (by omega), by omega⟩, by omega, by omega, by omega, by omega, by omega, by omega⟩
set_option maxRecDepth 100000 in
set_option maxHeartbeats 4000000 in
theorem RtakeN_any {g cu n j v N gq U : Nat} {us V : List Nat} {b : Option Addr} {cb : Nat} {w0 w : World} {φ : Phi} (h : Hid (OwSt w0 φ 3 (some ⟨g, 0, none⟩) cu us w)) (hN : Hid (us.length = N)) (hN4 : N ≤ 4000000000) (hj : j + n + 1 ≤ N) (hn1 : 1 ≤ n) (hL : Hid (Lim us)) (sv : SlV φ b cb V) (hLV : Hid (Lim V)) (hv : Hid (LV V = v)) (hvp : 0 < v) (hV : Hid (V.length = n)) (hU : Hid (LV ((us.drop j).take (n + 1)) = U)) (hg1 : U / v ≤ gq) (hg2 : gq ≤ U / v + 1) (hg9 : gq < 1000000000) :
    Calls Tryz.prog 207 #[.slice (some ⟨g, 0, none⟩) N cu, .slice b n cb, .int .i64 (j : Int), .int .i64 (gq : Int)] w (TakP w0 φ g cu us j n gq U v) := by
  have HG1 := Lib.hid hg1
  have HG2 := Lib.hid hg2
  have HVP := Lib.hid hvp
  have hvM : Hid (v ≤ lb ^ (n + 1)) := Lib.hid (by
    have h1 := LV_lt hLV.out
    rw [hv.out, hV.out] at h1
    exact Nat.le_trans (Nat.le_of_lt h1) (Nat.pow_le_pow_right lb_pos (by omega)))
  clear hg1 hg2 hvp
  go_enter Tryz.func207, Tryz.ntmps207
  go_wp2
  go_loopw [9, 10, 11] (fun bv iv dv wr => ∃ (i c : Nat) (us' : List Nat), i ≤ n + 1 ∧ c ≤ 1000000000 ∧ bv = .int .i64 (c : Int) ∧ iv = .int .i64 (i : Int) ∧ Hid (SubI us us' V j n gq i c) ∧ Hid (OwSt w0 φ 3 (some ⟨g, 0, none⟩) cu us' wr)) (fun _ iv _ _ => n + 1 - (intOf iv).toNat)
  case atStart => exact ⟨0, 0, us, by omega, by omega, rfl, rfl, Lib.hid (SubI.start hL.out V j n gq), h⟩
  case round =>
    clear h
    obtain ⟨i, c, us', hi, hc, rfl, rfl, hI, hSi⟩ := hrel
    rename World => wi
    have hN' : Hid (us'.length = N) := Lib.hid (by rw [hI.out.win.len]; exact hN.out)
    by_cases hin : i ≤ n
    · have hini : (i : Int) ≤ (n : Int) := by omega
      obtain ⟨u, hu⟩ : ∃ u, Hid (us'.getD (j + i) 0 = u) := ⟨_, Lib.hid rfl⟩
      obtain ⟨gg, hga, hgl, fo⟩ := hSi.out.own.natI hN' (k := j + i) (by omega)
      cases hga
      obtain ⟨c1, c2, c3⟩ := fo (j + i) (by omega)
      rw [hu.out] at c1
      have hul : u < 1000000000 := by rw [← hu.out]; exact hI.out.win.lim.getD _
      have hk1 : (0 : Int) ≤ (i : Int) + (j : Int) := by omega
      have hk2 : (i : Int) + (j : Int) < N := by omega
      have hk3 : ((i : Int) + (j : Int)).toNat = j + i := by omega
      by_cases hlt : i < n
      · have hlti : (i : Int) < (n : Int) := by omega
        obtain ⟨bb, ob, rfl, f⟩ := sv.natI hV (k := i) hlt
        have d2 := (f i hlt wi hSi.out.inv.fz).2
        obtain ⟨y, hy⟩ : ∃ y, Hid (V.getD i 0 = y) := ⟨_, Lib.hid rfl⟩
        have hyl : y < 1000000000 := by rw [← hy.out]; exact hLV.out.getD _
        rw [hy.out] at d2
        obtain ⟨p, hp⟩ : ∃ p, p = gq * y := ⟨_, rfl⟩
        have hpl : p ≤ 999999999 * 999999999 := by rw [hp]; exact Nat.mul_le_mul (by omega) (by omega)
        have hpi : (gq : Int) * (y : Int) = (p : Int) := by rw [hp]; exact (Int.natCast_mul gq y).symm
        obtain ⟨S, hS0⟩ : ∃ S, S = c + p := ⟨_, rfl⟩
        have hSe : Hid (S = c + gq * V.getD i 0) := Lib.hid (by rw [hy.out, hS0, hp])
        clear hp f
        obtain ⟨D, hD⟩ : ∃ D : Int, (u : Int) - (c : Int) - (p : Int) = D := ⟨_, rfl⟩
        have hDS : D = (u : Int) - (S : Int) := by omega
        have hSl : S ≤ 999999999 * 999999999 + 1000000000 := by omega
        have bw1 : -9223372036854775808 ≤ D ∧ D ≤ 9223372036854775807 := by omega
        by_cases hneg : u < S
        · obtain ⟨E, hE⟩ : ∃ E, E = S - u := ⟨_, rfl⟩
          obtain ⟨cc, hcc⟩ : ∃ c, c = (E + 999999999) / 1000000000 := ⟨_, rfl⟩
          obtain ⟨dg, hdg⟩ : ∃ c, c = u + cc * 1000000000 - S := ⟨_, rfl⟩
          obtain ⟨f1, f2, f3⟩ := ceil_lb hE hneg hul hcc hdg
          obtain ⟨hCi, hcl, hDi, hdl⟩ := take_facts hE hneg hul hSl hcc hdg
          rw [← hDS] at hDi
          have hnx0 := hI.out.next (s := S) (e := cc - S / lb) (q := dg) (by rw [hN.out]; exact hj) hin hu.out hSe.out f1 f2
          rw [f3] at hnx0
          have hnx := Lib.hid hnx0
          clear hnx0 f1 f2 f3 hcc hdg
          obtain ⟨⟨_, hEi⟩, _⟩ := take_bds hE hneg hul hSl hDS hcl hdl
          have hEl : -2000000000000000000 ≤ D := by omega
          have hi1 : i + 1 ≤ n + 1 := by omega
          have HS2 := Lib.hid (c3 dg w0 φ hSi.out.inv)
          have HCL := Lib.hid hcl
          have HCi : Hid ((-D + 1000000000 - 1) / 1000000000 = (cc : Int)) := Lib.hid (by rw [hEi]; exact hCi)
          have HDi := Lib.hid hDi
          have HD := Lib.hid hD
          have hDneg : D < 0 := by omega
          clear c3 hE hneg hS0 hDS hSl hCi hDi hEi hD bw1
          go_upto_region 9 with fail
          rw [HD.out]
          clear fo
          go_upto_region 11 with fail
          rw [HCi.out]
          go_upto_region 12 with fail
          rw [HDi.out]
          clear hEl hDneg
          go_wp2
          go_roundw
          case rel => exact ⟨i + 1, cc, us'.set (j + i) dg, hi1, HCL.out, rfl, by go_num, hnx, Lib.hid ⟨HS2.out.2, HS2.out.1⟩⟩
          case measure => (simp [intOf] <;> omega)
        · obtain ⟨dg, hdg⟩ : ∃ c, c = u - S := ⟨_, rfl⟩
          have hdl : dg < 1000000000 := by omega
          have hDi : D = (dg : Int) := by omega
          subst hDi
          have hz : S / 1000000000 = 0 := Nat.div_eq_of_lt (by omega)
          have hds : dg + S = u := by omega
          have hnx := Lib.hid (hI.out.next (s := S) (e := 0) (q := dg) (by rw [hN.out]; exact hj) hin hu.out hSe.out (by rw [show S / lb = 0 from hz, Nat.zero_add, Nat.zero_mul, Nat.add_zero]; exact hds) hdl)
          rw [show S / lb + 0 = 0 from hz] at hnx
          have HS2 := Lib.hid (c3 dg w0 φ hSi.out.inv)
          have HD := Lib.hid hD
          clear c3 hdg hneg hS0 hz hds hDS hSl hD
          go_upto_region 9 with fail
          rw [HD.out]
          clear fo
          go_wp2
          go_roundw
          case rel => exact ⟨i + 1, 0, us'.set (j + i) dg, by omega, by omega, rfl, by go_num, hnx, Lib.hid ⟨HS2.out.2, HS2.out.1⟩⟩
          case measure => (simp [intOf] <;> omega)
      · have hlti : ¬ (i : Int) < (n : Int) := by omega
        obtain ⟨S, hS0⟩ : ∃ S, S = c := ⟨_, rfl⟩
        have hSe : Hid (S = c + gq * V.getD i 0) := Lib.hid (by
          rw [List.getD_eq_getElem?_getD, List.getElem?_eq_none (by rw [hV.out]; omega), hS0]; rfl)
        obtain ⟨D, hD⟩ : ∃ D : Int, (u : Int) - (c : Int) = D := ⟨_, rfl⟩
        have hDS : D = (u : Int) - (S : Int) := by omega
        have hSl : S ≤ 999999999 * 999999999 + 1000000000 := by omega
        have bw1 : -9223372036854775808 ≤ D ∧ D ≤ 9223372036854775807 := by omega
        by_cases hneg : u < S
        · obtain ⟨E, hE⟩ : ∃ E, E = S - u := ⟨_, rfl⟩
          obtain ⟨cc, hcc⟩ : ∃ c, c = (E + 999999999) / 1000000000 := ⟨_, rfl⟩
          obtain ⟨dg, hdg⟩ : ∃ c, c = u + cc * 1000000000 - S := ⟨_, rfl⟩
          obtain ⟨f1, f2, f3⟩ := ceil_lb hE hneg hul hcc hdg
          obtain ⟨hCi, hcl, hDi, hdl⟩ := take_facts hE hneg hul hSl hcc hdg
          rw [← hDS] at hDi
          have hnx0 := hI.out.next (s := S) (e := cc - S / lb) (q := dg) (by rw [hN.out]; exact hj) hin hu.out hSe.out f1 f2
          rw [f3] at hnx0
          have hnx := Lib.hid hnx0
          clear hnx0 f1 f2 f3 hcc hdg
          obtain ⟨⟨_, hEi⟩, _⟩ := take_bds hE hneg hul hSl hDS hcl hdl
          have hEl : -2000000000000000000 ≤ D := by omega
          have hi1 : i + 1 ≤ n + 1 := by omega
          have HS2 := Lib.hid (c3 dg w0 φ hSi.out.inv)
          have HCL := Lib.hid hcl
          have HCi : Hid ((-D + 1000000000 - 1) / 1000000000 = (cc : Int)) := Lib.hid (by rw [hEi]; exact hCi)
          have HDi := Lib.hid hDi
          have HD := Lib.hid hD
          have hDneg : D < 0 := by omega
          clear c3 hE hneg hS0 hDS hSl hCi hDi hEi hD bw1
          go_upto_region 9 with fail
          rw [HD.out]
          clear fo
          go_upto_region 11 with fail
          rw [HCi.out]
          go_upto_region 12 with fail
          rw [HDi.out]
          clear hEl hDneg
          go_wp2
          go_roundw
          case rel => exact ⟨i + 1, cc, us'.set (j + i) dg, hi1, HCL.out, rfl, by go_num, hnx, Lib.hid ⟨HS2.out.2, HS2.out.1⟩⟩
          case measure => (simp [intOf] <;> omega)
        · obtain ⟨dg, hdg⟩ : ∃ c, c = u - S := ⟨_, rfl⟩
          have hdl : dg < 1000000000 := by omega
          have hDi : D = (dg : Int) := by omega
          subst hDi
          have hz : S / 1000000000 = 0 := Nat.div_eq_of_lt (by omega)
          have hds : dg + S = u := by omega
          have hnx := Lib.hid (hI.out.next (s := S) (e := 0) (q := dg) (by rw [hN.out]; exact hj) hin hu.out hSe.out (by rw [show S / lb = 0 from hz, Nat.zero_add, Nat.zero_mul, Nat.add_zero]; exact hds) hdl)
          rw [show S / lb + 0 = 0 from hz] at hnx
          have HS2 := Lib.hid (c3 dg w0 φ hSi.out.inv)
          have HD := Lib.hid hD
          clear c3 hdg hneg hS0 hz hds hDS hSl hD
          go_upto_region 9 with fail
          rw [HD.out]
          clear fo
          go_wp2
          go_roundw
          case rel => exact ⟨i + 1, 0, us'.set (j + i) dg, by omega, by omega, rfl, by go_num, hnx, Lib.hid ⟨HS2.out.2, HS2.out.1⟩⟩
          case measure => (simp [intOf] <;> omega)
    · obtain rfl : i = n + 1 := by omega
      have hini : ¬ (((n + 1 : Nat) : Int)) ≤ (n : Int) := by omega
      have hE := hI.out.eq
      rw [List.take_of_length_le (l := V) (by rw [hV.out]; omega), hv.out, hU.out] at hE
      have hEnd := Lib.hid (sub_end HVP.out hvM.out hE (win_lt hI.out.win.lim (by rw [hI.out.win.len, hN.out]; exact hj)) HG1.out HG2.out)
      clear hE
      go_wp2
      go_ret
      refine ⟨us', decide (0 < c), by simp, hI.out.win, fun hb => ?_, fun hb => ?_, hSi.out⟩
      · have h0 := of_decide_eq_false hb
        exact hEnd.out.1 (by omega)
      · have h0 := of_decide_eq_true hb
        obtain ⟨q1, q2, q3⟩ := hEnd.out.2 (by omega)
        exact ⟨q1, q3⟩
end Go.Proofs.YtnlhalnjbkpdnaaGreatDoor

namespace Go.Proofs.YtnlhalnjbkpdnaaGreatDoor
open Go.RowKit
set_option linter.unusedVariables false
set_option linter.unusedSimpArgs false
theorem LV_padI (xs : List Nat) (r : Nat) : LV (xs ++ List.replicate r 0) = LV xs := by rw [LV_append, LV_zeros, Nat.mul_zero, Nat.add_zero]
theorem pad_nextI (xs : List Nat) (r : Nat) : (xs ++ List.replicate r 0) ++ [0] = xs ++ List.replicate (r + 1) 0 := by
  rw [List.append_assoc, List.replicate_succ']
/-- The highest limbs at the loop's start are less than the divisor. -/
theorem start_ltI {us : List Nat} {m n d v N na k : Nat} (hU : LV us = m * d) (hN : us.length = N) (hm : m < lb ^ na) (hn : lb ^ (k + 1) ≤ n) (hv : n * d = v) (hd : 0 < d) (h1 : na + 1 ≤ N) (h2 : k + 2 ≤ N) : LV (us.drop (N - (k + 2))) < v := by
  rcases Nat.lt_or_ge (LV (us.drop (N - (k + 2)))) v with q | q
  · exact q
  · exfalso
    have e := LV_take_drop us (N - (k + 2)) (by omega)
    rw [hU] at e
    have h3 : lb ^ (N - (k + 2)) * v ≤ m * d := by
      have := Nat.mul_le_mul_left (lb ^ (N - (k + 2))) q
      omega
    have h4 : m * d < lb ^ na * d := Nat.mul_lt_mul_of_pos_right hm hd
    have h5 : lb ^ (k + 1) * d ≤ v := by rw [← hv]; exact Nat.mul_le_mul_right _ hn
    have h6 : lb ^ (N - (k + 2)) * (lb ^ (k + 1) * d) ≤ lb ^ (N - (k + 2)) * v := Nat.mul_le_mul_left _ h5
    rw [← Nat.mul_assoc, ← Nat.pow_add] at h6
    have h7 : lb ^ (N - (k + 2) + (k + 1)) * d < lb ^ na * d := by omega
    have h8 := Nat.lt_of_mul_lt_mul_right h7
    have h9 : lb ^ na ≤ lb ^ (N - (k + 2) + (k + 1)) := Nat.pow_le_pow_right lb_pos (by omega)
    omega
/-- A row of numbers reads alike whatever is frozen. -/
theorem repL_natI {φ φ' : Phi} : ∀ {xs : List Nat} {cells : List Value}, RepL φ xs cells → RepL φ' xs cells
  | [], _, h => h
  | x :: xs, _, ⟨cs, ds, hc, hx, hr⟩ => ⟨cs, ds, hc, hx, repL_natI hr⟩
/-- Two rows of the call's own: the first is handed on, the second kept. -/
theorem Ow2.lendI {β : Type} [Rep β] {w0 w : World} {φ : Phi} {E F : TypeId} {a1 a2 : Option Addr} {c1 c2 : Nat} {us : List Nat} {ys : List β} (h : Ow2 w0 φ E F a1 c1 us a2 c2 ys w) :
    ∃ φ', φ.le φ' ∧ OwSt w0 φ' E a1 c1 us w ∧ ∀ (us' : List Nat) (w' : World), OwSt w0 φ' E a1 c1 us' w' → Ow2 w0 φ E F a1 c1 us' a2 c2 ys w' := by
  obtain ⟨φ', hl, hf, hB, ho, hk⟩ := h.o2.around h.inv
  refine ⟨φ', hl, ⟨⟨h.inv.bel, h.inv.base, hf, φ'.le_refl, fun _ _ => rfl⟩, ?_⟩, fun us' w' h' => ⟨⟨h'.inv.bel, h'.inv.base, h'.inv.fz.sub hl, φ.le_refl, fun _ _ => rfl⟩, ?_, hk w' h'.inv.fz, h.ne⟩⟩
  · obtain ⟨⟨cells, hr, hL⟩, hfr⟩ := h.o1
    exact ⟨⟨cells, hr, hL.mono hl⟩, fun x hx => by rw [ho _ (fun y hy e => h.ne x y hx hy e.symm)]; exact hfr x hx⟩
  · obtain ⟨⟨cells, hr, hL⟩, hfr⟩ := h'.own
    refine ⟨⟨cells, hr, repL_natI hL⟩, fun x hx => ?_⟩
    cases hφ : φ x.block with
    | none => rfl
    | some o =>
      have h1 := hl _ _ hφ
      rw [hfr x hx] at h1
      cases h1
set_option maxRecDepth 100000 in
set_option maxHeartbeats 8000000 in
theorem Rdiv_any {M : Nat} (hM : LenB M) : RdivOk M := by
  intro m n k1 k2 a1 a2 c1 c2 w φ hφ s1 s2 h1 h2 hm9 hn99 hn0
  have hk1 : k1 ≤ 1000000000 := by rw [← h1.out]; exact hM.len hm9
  have hk2 : k2 ≤ 1000000000 := by rw [← h2.out]; exact hM.len hn99
  obtain ⟨q, hq⟩ : ∃ q, Hid (cmpN m n = q) := ⟨_, Lib.hid rfl⟩
  have HF := Lib.hid hφ
  have S1 := Lib.hid s1
  have S2 := Lib.hid s2
  have hcap : k1 ≤ c1 := by rw [← h1.out]; exact s1.capn
  clear s1 s2 hφ
  by_cases hlt : m < n
  · have hq1 : q = -1 := by rw [← hq.out, cmpN, if_pos hlt]
    subst hq1
    have e1 : Hid (m / n = 0 ∧ m % n = m) := Lib.hid ⟨Nat.div_eq_of_lt hlt, Nat.mod_eq_of_lt hlt⟩
    go_enter Tryz.func150, Tryz.ntmps150
    go_wp2_with (go_at_call 70; refine (Rorder_any HF.out S1.out S2.out h1 h2 (by omega) (by omega) hq).mono ?_; rintro e w' ⟨rfl, hb⟩)
    go_ret2
    rename World => w'
    refine ⟨none, 0, a1, c1, φ, ?_, (Inv.start HF.out).callB (by assumption), ?_, ?_⟩
    · rw [e1.out.1, e1.out.2, limbs_zero, h1.out]; rfl
    · rw [e1.out.1, limbs_zero]; exact SlV.empty φ
    · rw [e1.out.2]; exact S1.out
  have hq1 : 0 ≤ q := by rw [← hq.out, cmpN, if_neg hlt]; split <;> omega
  have hqn : ¬ q < 0 := by omega
  by_cases h21 : k2 = 1
  · subst h21
    have hnl : n < lb := by have := limbs_lt n; rwa [h2.out, Nat.pow_one] at this
    obtain ⟨b, off, rfl, f⟩ := S2.out.natI h2 (k := 0) (by omega)
    have hg0 : (limbs n).getD 0 0 = n := by rw [limbs_one hn0 hnl]; rfl
    have hc := Lib.hid (fun w (hw : Fz φ w) => (f 0 (by omega) w hw).2)
    rw [hg0, Nat.add_zero] at hc
    have hn9 : n ≤ 1000000000 := Nat.le_of_lt hnl
    have hrl : m % n < 9223372036854775808 := by have := Nat.mod_lt m hn0; omega
    clear f hg0
    go_enter Tryz.func150, Tryz.ntmps150
    go_wp2_with (first
      | (go_at_call 70; refine (Rorder_any HF.out S1.out S2.out h1 h2 (by omega) (by omega) hq).mono ?_; rintro e w1 ⟨rfl, hb⟩; have HI := Lib.hid ((Inv.start HF.out).callB hb); have d1 := hc.out w1 HI.out.fz)
      | (go_at_call 204; refine (Rshort_any HI.out.fz S1.out h1 (by omega) hn0 hn9).mono ?_; rintro e w2 ⟨a8, c8, φ8, rfl, hi8, hs8⟩; have HI8 := Lib.hid hi8; have HS8 := Lib.hid hs8; clear hi8 hs8)
      | (go_at_call 65; refine (Rsmall_any (m % n) hrl _ _ HI8.out.fz).mono ?_; rintro e w3 ⟨a9, c9, φ9, rfl, hi9, hs9⟩))
    go_ret2
    exact ⟨a8, c8, a9, c9, φ9, rfl, (HI.out.call HI8.out).call hi9, HS8.out.mono hi9.le, hs9⟩
  obtain ⟨k, rfl⟩ : ∃ k, k2 = k + 2 := by
    have : k2 ≠ 0 := fun e => by
      have := limbs_len0.1 (by rw [h2.out]; exact e : (limbs n).length = 0)
      omega
    exact ⟨k2 - 2, by omega⟩
  obtain ⟨t, ht⟩ : ∃ t, (limbs n).getD (k + 1) 0 = t := ⟨_, rfl⟩
  obtain ⟨f1, f2, f3, f4, f5, f6⟩ := scale_facts h2.out ht
  obtain ⟨d, hd⟩ : ∃ d, lb / (t + 1) = d := ⟨_, rfl⟩
  rw [hd] at f3 f4 f5
  have f2' : t < 1000000000 := f2
  have f4' : d < 1000000000 := f4
  have hdv : Hid ((1000000000 : Int) / ((t : Int) + 1) = (d : Int)) := Lib.hid (by rw [← hd]; exact (Int.natCast_ediv lb (t + 1)).symm ▸ rfl)
  have hz : (((t : Int) + 1) == 0) = false := by simp; omega
  obtain ⟨v, hv⟩ : ∃ v, n * d = v := ⟨_, rfl⟩
  rw [hv] at f5
  have hvl : Hid ((limbs v).length = k + 2) := Lib.hid f5
  have hvn : lb ^ (k + 1) ≤ v := by rw [← hv]; exact Nat.le_trans f6 (Nat.le_mul_of_pos_right n f3)
  have hv0 : 0 < v := Nat.lt_of_lt_of_le (Nat.pow_pos lb_pos) hvn
  have hvM : Hid (v ≤ lb ^ (k + 2)) := Lib.hid (by have := limbs_lt v; rw [hvl.out] at this; omega)
  have hvt : Hid ((limbs v).getD (k + 1) 0 ≠ 0) := Lib.hid (by have := top_drop0 hvl.out; omega)
  obtain ⟨nu, hnu⟩ : ∃ k, Hid ((limbs (m * d)).length = k) := ⟨_, Lib.hid rfl⟩
  have hnu1 : nu ≤ k1 + 1 := by
    have hld : (limbs d).length = 1 := by rw [limbs_one f3 f4]; rfl
    have := limbs_mul m d; rw [hnu.out, h1.out, hld] at this; exact this
  have hk12 : k + 2 ≤ k1 := by
    rw [← h1.out, ← h2.out]; exact limbs_mono (by omega)
  have hmk : Hid (m < lb ^ k1) := Lib.hid (by rw [← h1.out]; exact limbs_lt m)
  have HF6 := Lib.hid f6
  have HV := Lib.hid hv
  have HD3 := Lib.hid f3
  obtain ⟨b, off, rfl, f⟩ := S2.out.natI h2 (k := 0) (by omega)
  have hc := Lib.hid (fun w (hw : Fz φ w) => (f (k + 1) (by omega) w hw).2)
  rw [ht] at hc
  have hx1 : (0 : Int) ≤ ((k + 2 : Nat) : Int) - 1 := by omega
  have hx2 : ((k + 2 : Nat) : Int) - 1 < ((k + 2 : Nat) : Int) := by omega
  have hx3 : (((k + 2 : Nat) : Int) - 1).toNat = k + 1 := by omega
  have hk21 : (((k + 2 : Nat) : Int) == 1) = false := by simp; omega
  clear f f1 f2 f4 f5 f6 ht hd hv hvn
  go_enter Tryz.func150, Tryz.ntmps150
  go_wp2_with (first
    | (go_at_call 70; refine (Rorder_any HF.out S1.out S2.out h1 h2 (by omega) (by omega) hq).mono ?_; rintro e w1 ⟨rfl, hb⟩; have HI := Lib.hid ((Inv.start HF.out).callB hb); have d1 := hc.out w1 HI.out.fz; clear hb)
    | (go_at_call 205; (with_reducible refine (Rscaled_any (m := n) (d := d) I4.out.inv.fz S2.out h2 (by omega) f4').mono ?_); rintro e w5 ⟨a5, c5, rfl, hi5⟩; rw [HV.out, hvl.out]; rw [HV.out] at hi5; have I5 := Lib.hid hi5; have H45 := Lib.hid (I4.out.callB hi5.inv.bel); clear hi5)
    | (go_at_call 205; rw [hdv.out]; (with_reducible refine (Rscaled_any (m := m) (d := d) HI.out.fz S1.out h1 (by omega) f4').mono ?_); rintro e w4 ⟨a4, c4, rfl, hi4⟩; rw [hnu.out]; have I4 := Lib.hid hi4; clear hi4))
  have hO5 : Hid (Ow2 w1 φ 3 3 a4 c4 (limbs (m * d)) a5 c5 (limbs v) w5) := Lib.hid ⟨H45.out.inv, H45.out.own, I5.out.own.base I4.out.inv.size, fun x y hx hy e => by
    have e1 := (I4.out.own.lt x hx).2
    have e2 := (I5.out.own.lt y hy).1
    omega⟩
  obtain ⟨φ5, hle5, hnew5, hI5, ho5, hs5⟩ := hO5.out.rel2
  have HE := Lib.hid (fun (ψ : Phi) (W : World) (h : Inv w1.heap.size w1 φ5 ψ W) => (HI.out.call ⟨h.bel, h.base, h.fz, hle5.trans h.le, fun b hb => (h.new b hb).trans (hnew5 b hb)⟩ : Inv w.heap.size w φ ψ W))
  have SV := Lib.hid hs5
  have hS7 : Hid (OwSt w1 φ5 3 a4 c4 (limbs (m * d)) w5) := Lib.hid ⟨hI5, ho5⟩
  clear H45 I4 I5 hO5 hle5 hnew5 hI5 ho5 hs5 d1 hc HI
  go_loopw [9] (fun uv wr => ∃ (r : Nat) (ao : Option Addr) (co : Nat) (us : List Nat), uv = .slice ao us.length co ∧ us.length = nu + r ∧ (r = 0 ∨ nu + r ≤ k1 + 1) ∧ Hid (us = limbs (m * d) ++ List.replicate r 0) ∧ Hid (OwSt w1 φ5 3 ao co us wr)) (fun uv _ => k1 + 1 - slN uv)
  case atStart => exact ⟨0, a4, c4, limbs (m * d), by rw [hnu.out], by rw [hnu.out]; rfl, .inl rfl, Lib.hid (by simp), hS7⟩
  case round =>
    clear hS7
    obtain ⟨r, ao, co, us, rfl, hul, hr, hus, hS⟩ := hrel
    by_cases hl : us.length ≤ k1
    · have hli : (us.length : Int) ≤ (k1 : Int) := by omega
      have hin := Lib.hid hS.out.inv
      have hon := Lib.hid hS.out.own
      have hnx : Hid (us ++ [0] = limbs (m * d) ++ List.replicate (r + 1) 0) := Lib.hid (by rw [hus.out, pad_nextI])
      clear hS
      go_wp2_with (at_builtin; (refine wpList_app1F (α := Nat) rfl _ _ 53 rfl slNatI hin.out ao co _ hon.out _ _ 0 rfl rfl 1 rfl (by omega) ?_; intro a8 c8 w8 hi8 ho8 hg8 hf8))
      go_roundw
      case rel => exact ⟨r + 1, a8, c8, us ++ [0], by simp; omega, by simp; omega, .inr (by omega), hnx, Lib.hid ⟨hi8, ho8⟩⟩
      case measure => simp [slN]; omega
    · have hli : ¬ (us.length : Int) ≤ (k1 : Int) := by omega
      obtain ⟨N, hN⟩ : ∃ N, us.length = N := ⟨_, rfl⟩
      rw [hN] at hul hl hli ⊢
      obtain ⟨Q, hQ⟩ : ∃ Q, N = Q + (k + 2) := ⟨N - (k + 2), by omega⟩
      have hQ0 : 0 < Q := by omega
      have hNb : N ≤ 1000000002 := by omega
      have HQ : Hid ((N : Int) - ((k : Int) + 2) = (Q : Int)) := Lib.hid (by omega)
      have HN := Lib.hid hN
      obtain ⟨gu, hga, hgl, _⟩ := hS.out.own.natI HN (k := 0) (by omega)
      subst hga
      have hcu : N ≤ co := by have := hS.out.own.cap_le; omega
      have hco := hS.out.own.cap_le.2.1
      have hU0 : Hid (LV us = m * d) := Lib.hid (by rw [hus.out, LV_padI, LV_limbs])
      have hstart : Hid (OvI us us (List.replicate Q 0) v Q) := Lib.hid (by
        have hL : Lim us := by rw [hus.out]; exact (limbs_lim _).append (Lim.zeros _)
        refine ⟨rfl, hL, rfl, ?_, ?_⟩
        · have := start_ltI hU0.out hN hmk.out HF6.out HV.out HD3.out (by omega) (by omega)
          rw [show N - (k + 2) = Q by omega] at this
          exact this
        · have e : (List.replicate Q 0).drop Q = ([] : List Nat) := List.drop_of_length_le (by simp)
          rw [e]; simp [LV])
      have hin := Lib.hid hS.out.inv
      have hon := Lib.hid hS.out.own
      have hQa : Q + (k + 2) ≤ N := by omega
      have hQb : N ≤ Q + (k + 2) := by omega
      have HQ2 := Lib.hid hQ
      clear hus hr hul hl hN hS hQ
      go_wp2_with (at_make; (refine wpList_mkn (α := Nat) rfl _ _ 53 rfl slNatI hin.out _ _ Q 0 (fun _ => rfl) rfl (by first | rfl | exact congrArg (Value.int .i64) HQ.out) (by first | rfl | exact congrArg (Value.int .i64) HQ.out) (by omega) ?_; intro w8 hi8 ho8 hg8))
      have hne : gu ≠ wr.heap.size := Nat.ne_of_lt hgl
      have hO : Hid (Ow2 w1 φ5 3 3 (some ⟨gu, 0, none⟩) co us (some ⟨wr.heap.size, 0, none⟩) Q (List.replicate Q 0) w8) := Lib.hid ⟨hi8, hon.out.other hg8 (fun x hx => by simp), ho8, fun x y hx hy => by cases hx; cases hy; exact hne⟩
      generalize wr.heap.size = gq at *
      have hin0 := HN.out
      clear hin hon hi8 ho8 hg8
      go_loopw [13] (fun jv wr2 => ∃ (i : Nat) (u2 qs : List Nat), i ≤ Q ∧ jv = .int .i64 ((i : Int) - 1) ∧ Hid (qs.length = Q) ∧ Hid (Lim qs) ∧ Hid (OvI us u2 qs v i) ∧ Hid (Ow2 w1 φ5 3 3 (some ⟨gu, 0, none⟩) co u2 (some ⟨gq, 0, none⟩) Q qs wr2)) (fun jv _ => (intOf jv + 1).toNat)
      case atStart => exact ⟨Q, us, List.replicate Q 0, Nat.le_refl _, congrArg (Value.int .i64) (by omega), Lib.hid (by simp), Lib.hid (Lim.zeros Q), hstart, hO⟩
      case round =>
        clear hstart hO
        obtain ⟨i, u2, qs, hi, rfl, hql, hqL, hI, hO⟩ := hrel
        rename World => wr2
        by_cases hi0 : i = 0
        · subst hi0
          have hneg : ¬ (0 : Int) ≤ ((0 : Nat) : Int) - 1 := by omega
          obtain ⟨φ9, l9, i9, su, sq⟩ := hO.out.release
          have HSU := Lib.hid su
          have HSQ := Lib.hid sq
          have HI9 := Lib.hid i9
          have hdn : Hid (LV qs = m / n ∧ LV u2 = m % n * d) := Lib.hid (by
            have := hI.out
            rw [← HV.out] at this
            exact this.done hU0.out HD3.out hn0)
          have hul2 : Hid (u2.length = N) := Lib.hid (by rw [hI.out.len, hin0])
          have huL : Hid (Lim u2) := Lib.hid hI.out.lim
          obtain ⟨p1, hp1⟩ : ∃ p, Hid ((limbs (LV u2)).length = p) := ⟨_, Lib.hid rfl⟩
          obtain ⟨p2, hp2⟩ : ∃ p, Hid ((limbs (LV qs)).length = p) := ⟨_, Lib.hid rfl⟩
          have hp1l : p1 ≤ 4000000000 := by
            obtain ⟨kk, hkk, hke⟩ := trim_take huL.out
            have := hp1.out
            rw [hke, List.length_take, hul2.out] at this
            omega
          have hsh : Hid (LV u2 / d = m % n) := Lib.hid (by rw [hdn.out.2]; exact Nat.mul_div_cancel _ HD3.out)
          have STU := Lib.hid (su.trimI huL.out rfl)
          have hf4 : d ≤ 1000000000 := by omega
          clear su sq i9 hO hI
          go_wp2_with (first
            | (go_at_call 204; (with_reducible refine (Rshort_any (m := LV u2) (d := d) HI9.out.fz STU.out hp1 hp1l HD3.out hf4).mono ?_); rintro e w9 ⟨a9, c9, ψ, rfl, hi9, hs9⟩; rw [hsh.out] at hs9; have hs9' := Lib.hid hs9; have HI10 := Lib.hid (HI9.out.call hi9); have HSQ2 := Lib.hid (HSQ.out.mono hi9.le); clear hs9 hi9)
            | (go_at_call 135; (with_reducible refine (Rtrim_any HI10.out.fz HSQ2.out hql (by omega) hqL hp2).mono ?_); rintro e w' ⟨rfl, rfl⟩)
            | (go_at_call 135; (with_reducible refine (Rtrim_any HI9.out.fz HSU.out hul2 (by omega) huL hp1).mono ?_); rintro e w' ⟨rfl, rfl⟩))
          go_ret2
          refine ⟨some ⟨gq, 0, none⟩, Q, a9, c9, ψ, ?_, HE.out ψ _ HI10.out, ?_, hs9'.out⟩
          · rw [← hdn.out.1, hp2.out, hsh.out]; rfl
          · rw [← hdn.out.1]; exact HSQ2.out.trimI hqL.out rfl
        · obtain ⟨j, rfl⟩ : ∃ j, i = j + 1 := ⟨i - 1, by omega⟩
          have hpos : (0 : Int) ≤ ((j + 1 : Nat) : Int) - 1 := by omega
          have hjj : Hid (((j + 1 : Nat) : Int) - 1 = (j : Int)) := Lib.hid (by omega)
          obtain ⟨U, hU⟩ : ∃ U, Hid (LV ((u2.drop j).take (k + 3)) = U) := ⟨_, Lib.hid rfl⟩
          have hwin := hI.out.win (nb := k + 2) (by rw [hin0]; omega) hvM.out
          have hltU : Hid (LV ((u2.drop j).take (k + 3)) < v * lb) := Lib.hid (by rw [show k + 3 = (k + 2) + 1 by omega, hwin.1]; exact hwin.2.1)
          have hN2 : Hid (u2.length = N) := Lib.hid (by rw [hI.out.len]; exact hin0)
          have hL2 : Hid (Lim u2) := Lib.hid hI.out.lim
          have hVL : Hid (Lim (limbs v)) := Lib.hid (limbs_lim v)
          have hVV : Hid (LV (limbs v) = v) := Lib.hid (LV_limbs v)
          obtain ⟨φl, hll, hlst, hback⟩ := hO.out.lendI
          have HL := Lib.hid hlst
          have SVl := Lib.hid (SV.out.mono hll)
          have hstep := Lib.hid (fun u3 (hw : WinO u2 u3 j (k + 2)) (hr : LV ((u3.drop j).take (k + 3)) = U % v) => hI.out.step (nb := k + 2) (U := U) (by rw [hin0]; omega) (by rw [hql.out]; omega) hvM.out hv0 hU.out hw hr)
          clear hwin hlst hback hll
          have hto : (((j + 1 : Nat) : Int) - 1).toNat = j := by omega
          have hbd : ((j + 1 : Nat) : Int) - 1 < (Q : Int) := by omega
          have hUv : Hid (U / v < lb) := Lib.hid ((Nat.div_lt_iff_lt_mul hv0).2 (by have := hltU.out; rw [hU.out] at this; rw [Nat.mul_comm]; exact this))
          have hjN : j + (k + 2) + 1 ≤ N := by omega
          obtain ⟨gg, hga, hgl2, fo⟩ := hO.out.o2.natI hql (k := j) (by omega)
          cases hga
          obtain ⟨e1, e2, e3⟩ := fo j (by omega)
          clear fo e3
          have hN9 : N ≤ 4000000000 := by omega
          go_wp2_with fail
          rw [hjj.out]
          (with_reducible refine (Rguess_any HL hN2 hN9 hjN hL2 SVl.out hVL hVV hvl hvt hltU).mono ?_)
          rintro e w9 ⟨gv, rfl, q1, q2, q3, hb9⟩
          rw [hU.out] at q1 q2
          have hO9 := Lib.hid (hO.out.callB hb9)
          obtain ⟨gg, hga, hgl3, fo⟩ := hO9.out.o2.natI hql (k := j) (by omega)
          cases hga
          obtain ⟨e4, e5, e6⟩ := fo j (by omega)
          have e7 := e6 gv w1 φ5 hO9.out.inv
          have hO10 := Lib.hid (hO9.out.swap.put1 e7.1 e7.2).swap
          obtain ⟨φk, hlk, hlstk, hbackk⟩ := hO10.out.lendI
          have HLk := Lib.hid hlstk
          have HBk := Lib.hid hbackk
          have SVk := Lib.hid (SV.out.mono hlk)
          have hgv9 : gv < 1000000000 := q3
          clear fo e6 e7 hb9 e1 e2 hlk hlstk hbackk hO9 HL
          go_wp2_with fail
          (with_reducible refine (RtakeN_any (v := v) HLk hN2 hN9 hjN (by omega) hL2 SVk.out hVL hVV hv0 hvl hU q1 q2 hgv9).mono ?_)
          rintro e w11 ⟨u3, bad, rfl, hw3, hf, ht, hS3⟩
          have hO11 := Lib.hid (HBk.out u3 w11 hS3)
          have hql2 : Hid ((qs.set j gv).length = Q) := Lib.hid (by rw [List.length_set]; exact hql.out)
          cases bad
          · obtain ⟨f1, f2⟩ := hf rfl
            have hI3 := Lib.hid (hstep.out u3 hw3 f2)
            rw [← f1] at hI3
            have hq9 : Hid (gv < lb) := Lib.hid q3
            clear hf ht f1 f2 hw3 hS3 hstep q1 q2 q3 HBk HLk e4 e5
            go_wp2
            go_roundw
            case rel => exact ⟨j, u3, qs.set j gv, by omega, by go_num, hql2, Lib.hid (hqL.out.set hq9.out), hI3, hO11⟩
            case measure => (simp [intOf] <;> omega)
          · obtain ⟨f1, f2⟩ := ht rfl
            obtain ⟨g2, hg2⟩ : ∃ g2, U / v = g2 := ⟨_, rfl⟩
            rw [hg2] at f1
            have hgm : Hid ((gv : Int) - 1 = (g2 : Int)) := Lib.hid (by omega)
            have hg9 : Hid (g2 < lb) := Lib.hid (by show g2 < 1000000000; omega)
            have HG2 := Lib.hid hg2
            obtain ⟨gg, hga, hgl4, fo⟩ := hO11.out.o2.natI hql2 (k := j) (by omega)
            cases hga
            obtain ⟨e1, e2, e6⟩ := fo j (by omega)
            have egv : (qs.set j gv).getD j 0 = gv := by
              rw [List.getD_eq_getElem?_getD, List.getElem?_set_self (by rw [hql.out]; omega)]; rfl
            rw [egv] at e1
            have e7 := e6 g2 w1 φ5 hO11.out.inv
            rw [List.set_set] at e7
            have hO12 := Lib.hid (hO11.out.swap.put1 e7.1 e7.2).swap
            obtain ⟨φg, hlg, hlstg, hbackg⟩ := hO12.out.lendI
            have HLg := Lib.hid hlstg
            have HBg := Lib.hid hbackg
            have SVg := Lib.hid (SV.out.mono hlg)
            have hN3 : Hid (u3.length = N) := Lib.hid (hw3.len.trans hN2.out)
            have hL3 := Lib.hid hw3.lim
            obtain ⟨A, hA⟩ : ∃ A, Hid (LV ((u3.drop j).take (k + 2 + 1)) = A) := ⟨_, Lib.hid rfl⟩
            rw [hA.out] at f2
            have hr3 := Lib.hid f2
            have hmod := Lib.hid (Nat.mod_lt U hv0)
            have HW3 := Lib.hid hw3
            clear hf ht f1 f2 hw3 hS3 q1 q2 q3 HBk HLk e4 e5 fo e6 e7 hlg hlstg hbackg egv hg2 hO11
            go_wp2_with fail
            rw [hgm.out]
            (with_reducible refine (Rgive_any (r := U % v) HLg hN3 hN9 hjN hL3 SVg.out hVL hVV hvl hA hr3 hmod).mono ?_)
            rintro e w13 ⟨u4, rfl, hw4, hr4, hS4⟩
            have hO13 := Lib.hid (HBg.out u4 w13 hS4)
            have hI4 := Lib.hid (hstep.out u4 (HW3.out.trans hw4) hr4)
            rw [HG2.out] at hI4
            clear hr4 hw4 hS4 hstep HBg HLg e1 e2
            go_wp2
            go_roundw
            case rel => exact ⟨j, u4, qs.set j g2, by omega, by go_num, Lib.hid (by rw [List.length_set]; exact hql.out), Lib.hid (hqL.out.set hg9.out), hI4, hO13⟩
            case measure => (simp [intOf] <;> omega)
end Go.Proofs.YtnlhalnjbkpdnaaGreatDoor
