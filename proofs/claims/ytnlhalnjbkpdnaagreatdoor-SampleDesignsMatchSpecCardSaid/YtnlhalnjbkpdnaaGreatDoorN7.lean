/- The walk of divideStep. Conditions: none beyond what the claim form gives. -/
import Derived.Test.YtnlhalnjbkpdnaaGreatDoorNB
namespace Go.Proofs.YtnlhalnjbkpdnaaGreatDoor
open Go.RowKit
set_option linter.unusedVariables false
set_option linter.unusedSimpArgs false
theorem WinO.trans {us us1 us2 : List Nat} {j n : Nat} (h : WinO us us1 j n) (h2 : WinO us1 us2 j n) : WinO us us2 j n := ⟨h2.len.trans h.len, h2.lim, h2.lo.trans h.lo, h2.hi.trans h.hi⟩
def DivPost (w0 : World) (φ : Phi) (g cu : Nat) (us : List Nat) (j n q r : Nat) (e : Ending) (w' : World) : Prop :=
  ∃ us', e = .returned (.int .u64 (q : Int)) ∧ WinO us us' j n ∧ LV ((us'.drop j).take (n + 1)) = r ∧ OwSt w0 φ 215 (some ⟨g, 0, none⟩) cu us' w'
set_option maxRecDepth 100000 in
set_option maxHeartbeats 4000000 in
theorem divideStep_any {g cu cj k j v N : Nat} {us V : List Nat} {b : Option Addr} {cb : Nat} {w0 w : World} {φ : Phi} (h : Hid (OwSt w0 φ 215 (some ⟨g, 0, none⟩) cu us w)) (hN : Hid (us.length = N)) (hN4 : N ≤ 4000000000) (hj : j + (k + 2) + 1 ≤ N) (hL : Hid (Lim us)) (sv : SlV φ b cb V) (hLV : Hid (Lim V)) (hv : Hid (LV V = v)) (hV : Hid (V.length = k + 2)) (h0 : Hid (V.getD (k + 1) 0 ≠ 0)) (hlt : Hid (LV ((us.drop j).take (k + 3)) < v * lb)) :
    Calls Tryz.prog 282 #[.slice (some ⟨g, j, none⟩) ((k + 2) + 1) cj, .slice b (k + 2) cb] w (DivPost w0 φ g cu us j (k + 2) (LV ((us.drop j).take (k + 3)) / v) (LV ((us.drop j).take (k + 3)) % v)) := by
  have D := Lib.hid (dig_of hL.out hLV.out hv.out hV.out h0.out (by rw [hN.out]; omega) hlt.out)
  obtain ⟨U, hU⟩ : ∃ U, Hid (LV ((us.drop j).take (k + 3)) = U) := ⟨_, Lib.hid rfl⟩
  rw [hU.out] at D ⊢
  have hvp := Lib.hid D.out.vpos
  have hvM : Hid (v ≤ lb ^ (k + 3)) := Lib.hid (by
    have h1 := LV_lt hLV.out
    rw [hv.out, hV.out] at h1
    exact Nat.le_trans (Nat.le_of_lt h1) (Nat.pow_le_pow_right lb_pos (by omega)))
  obtain ⟨q, hq⟩ : ∃ q, Hid (U / v = q) := ⟨_, Lib.hid rfl⟩
  obtain ⟨n, hn⟩ : ∃ n, Hid (k + 2 = n) := ⟨_, Lib.hid rfl⟩
  have hn2 : 2 ≤ n := by rw [← hn.out]; omega
  have e1 : k + 1 = n - 1 := by rw [← hn.out]; rfl
  have e0 : k = n - 2 := by rw [← hn.out]; rfl
  have e3 : k + 3 = n + 1 := by rw [← hn.out]
  rw [hn.out, e1] at D
  rw [e3] at hvM hU hlt
  rw [hn.out] at hj hV ⊢
  clear e1 e3 h0
  obtain ⟨gg, hga, hgl, fo⟩ := h.out.own.natD hN (k := j) (by omega)
  cases hga
  obtain ⟨x2, hx2⟩ : ∃ x, Hid (us.getD (j + n) 0 = x) := ⟨_, Lib.hid rfl⟩
  obtain ⟨x1, hx1⟩ : ∃ x, Hid (us.getD (j + (n - 1)) 0 = x) := ⟨_, Lib.hid rfl⟩
  obtain ⟨x0, hx0⟩ : ∃ x, Hid (us.getD (j + k) 0 = x) := ⟨_, Lib.hid rfl⟩
  obtain ⟨v1, hv1⟩ : ∃ x, Hid (V.getD (n - 1) 0 = x) := ⟨_, Lib.hid rfl⟩
  obtain ⟨v2, hv2⟩ : ∃ x, Hid (V.getD k 0 = x) := ⟨_, Lib.hid rfl⟩
  have bx2 : x2 < 1000000000 := by rw [← hx2.out]; exact hL.out.getD _
  have bx1 : x1 < 1000000000 := by rw [← hx1.out]; exact hL.out.getD _
  have bx0 : x0 < 1000000000 := by rw [← hx0.out]; exact hL.out.getD _
  have bv1 : v1 < 1000000000 := by rw [← hv1.out]; exact hLV.out.getD _
  have bv2 : v2 < 1000000000 := by rw [← hv2.out]; exact hLV.out.getD _
  rw [hx2.out, hx1.out, hx0.out, hv1.out, hv2.out] at D
  have pv1 := D.out.v1p
  obtain ⟨bb, ob, rfl, f⟩ := sv.natD hV (k := 0) (by omega)
  have d1 := (f (n - 1) (by omega) w h.out.inv.fz).2
  rw [hv1.out] at d1
  have c2 := (fo (j + n) (by omega)).1
  have c1 := (fo (j + (n - 1)) (by omega)).1
  rw [hx2.out] at c2
  rw [hx1.out] at c1
  obtain ⟨top, htop⟩ : ∃ t, t = x2 * lb + x1 := ⟨_, rfl⟩
  have ht18 : top < 1000000000000000000 := by rw [htop]; show x2 * 1000000000 + x1 < _; omega
  have hti : (x2 : Int) * 1000000000 + (x1 : Int) = (top : Int) := by rw [htop]; show _ = ((x2 * 1000000000 + x1 : Nat) : Int); omega
  rw [← htop] at D
  have hst := Lib.hid D.out.start
  obtain ⟨g0, hg0⟩ : ∃ g0, Hid (min (top / v1) (lb - 1) = g0) := ⟨_, Lib.hid rfl⟩
  rw [hg0.out, hq.out] at hst
  have hgq : Hid ((top : Int) / (v1 : Int) = ((top / v1 : Nat) : Int)) := Lib.hid rfl
  have hx1i : (0 : Int) ≤ (n : Int) - 1 := by omega
  have hx3i : (n : Int) - 1 < n := by omega
  have hx4i : (n : Int) - 1 < (n : Int) + 1 := by omega
  have hto1 : ((n : Int) - 1).toNat = n - 1 := by omega
  have hv1z : ((v1 : Int) == 0) = false := by simp; omega
  have HTI := Lib.hid hti
  rw [e0] at hv2 hx0
  clear htop hti fo f e0
  have hg9 : g0 < 1000000000 := by rw [← hg0.out]; exact Nat.lt_of_le_of_lt (Nat.min_le_right _ _) (by decide)
  by_cases hm : top / v1 ≤ 999999999
  · have hmi : ¬ 999999999 < ((x2 : Int) * 1000000000 + (x1 : Int)) / (v1 : Int) := by rw [HTI.out, hgq.out]; omega
    have hge : Hid ((top : Int) / (v1 : Int) = (g0 : Int)) := Lib.hid (by
      rw [hgq.out, ← hg0.out, Nat.min_eq_left]
      show _ ≤ 1000000000 - 1
      omega)
    go_enter Tryz.func282, Tryz.ntmps282
    go_wp2
    go_quiet (fail)
    go_wp2
    all_goals rw [HTI.out, hge.out]
    go_loopw [7] (fun gv wr => ∃ gq : Nat, gv = .int .u64 (gq : Int) ∧ Hid (q ≤ gq ∧ gq * v1 ≤ top) ∧ gq < 1000000000 ∧ Hid (OwSt w0 φ 215 (some ⟨g, 0, none⟩) cu us wr)) (fun gv _ => (intOf gv).toNat)
    case atStart => exact ⟨g0, rfl, hst, hg9, Lib.hid (h.out.drewN _)⟩
    case round =>
      clear h hst hge hm hmi
      obtain ⟨gq, rfl, hgq, hg9, hS⟩ := hrel
      obtain ⟨t, ht⟩ : ∃ t, Hid (tmB top gq v1 v2 x0 = t) := ⟨_, Lib.hid rfl⟩
      by_cases hz : 0 < gq
      · have hzi : (0 : Int) < (gq : Int) := by omega
        obtain ⟨gg, hga, hgl, fo⟩ := hS.out.own.natD hN (k := j) (by omega)
        cases hga
        have c0 := (fo (j + (n - 2)) (by omega)).1
        rw [hx0.out] at c0
        have hy1 : (0 : Int) ≤ (n : Int) - 2 := by omega
        have hy2 : (n : Int) - 2 < (n : Int) + 1 := by omega
        have hto2 : ((n : Int) - 2).toNat = n - 2 := by omega
        clear fo
        cases t
        · have hg1 := Lib.hid (D.out.stop hgq.out.2 hg9 (.inr ht.out))
          rw [hq.out] at hg1
          go_wp2_with (go_at_call 293; refine (tooMuch_any hS.out.inv.fz sv hV hn2 (by omega) hv1 hv2 bv1 bv2 hg9 ht18 bx0 hgq.out.2 ht).mono ?_; rintro e w' ⟨rfl, rfl⟩)
          go_wp2
          go_loopw [8, 9] (fun cv iv wi => ∃ (i c : Nat) (us' : List Nat), i ≤ n + 1 ∧ c ≤ 1000000000 ∧ cv = .int .u64 (c : Int) ∧ iv = .int .i64 (i : Int) ∧ Hid (SubI us us' V j n gq i c) ∧ Hid (OwSt w0 φ 215 (some ⟨g, 0, none⟩) cu us' wi)) (fun _ iv _ => n + 1 - (intOf iv).toNat)
          case atStart => exact ⟨0, 0, us, Nat.zero_le _, Nat.zero_le _, rfl, rfl, Lib.hid (SubI.start hL.out V j n gq), hS⟩
          case round =>
            clear hS
            obtain ⟨i, c, us', hi, hc, rfl, rfl, hI, hSi⟩ := hrel
            rename World => wi
            have hN' : Hid (us'.length = N) := Lib.hid (by rw [hI.out.win.len]; exact hN.out)
            by_cases hin : i ≤ n
            · have hini : (i : Int) ≤ (n : Int) := by omega
              obtain ⟨u, hu⟩ : ∃ u, Hid (us'.getD (j + i) 0 = u) := ⟨_, Lib.hid rfl⟩
              obtain ⟨gg, hga, hgl, fo⟩ := hSi.out.own.natD hN' (k := j + i) (by omega)
              cases hga
              obtain ⟨c1, c2, c3⟩ := fo (j + i) (by omega)
              rw [hu.out] at c1
              have hul : u < 1000000000 := by rw [← hu.out]; exact hI.out.win.lim.getD _
              have hib : (i : Int) < (n : Int) + 1 := by omega
              by_cases hlt : i < n
              · have hlti : (i : Int) < (n : Int) := by omega
                obtain ⟨_, _, hbb, f⟩ := sv.natD hV (k := i) hlt
                cases hbb
                have d2 := (f i hlt wi hSi.out.inv.fz).2
                obtain ⟨y, hy⟩ : ∃ y, Hid (V.getD i 0 = y) := ⟨_, Lib.hid rfl⟩
                have hyl : y < 1000000000 := by rw [← hy.out]; exact hLV.out.getD _
                rw [hy.out] at d2
                obtain ⟨p, hp⟩ : ∃ p, p = gq * y := ⟨_, rfl⟩
                have hpl : p ≤ 999999999 * 999999999 := by rw [hp]; exact Nat.mul_le_mul (by omega) (by omega)
                have hpi : ((gq : Nat) : Int) * (y : Int) = (p : Int) := by rw [hp]; exact (Int.natCast_mul gq y).symm
                obtain ⟨S, hS0⟩ : ∃ S, S = c + p := ⟨_, rfl⟩
                have hSe : Hid (S = c + gq * V.getD i 0) := Lib.hid (by rw [hy.out, hS0, hp])
                have hSl : S ≤ 999999998000000001 + 1000000000 := by omega
                clear hp f
                by_cases hlo : u < S % 1000000000
                · have hloi : (u : Int) < ((c : Int) + (p : Int)) % 1000000000 := by omega
                  obtain ⟨t2, ht2⟩ : ∃ t, t = u + 1000000000 := ⟨_, rfl⟩
                  have ht2e : (t2 : Int) = (u : Int) + 1000000000 := by omega
                  have ht2l : t2 < 2000000000 := by omega
                  have s1 := c3 t2 w0 φ hSi.out.inv
                  rw [ht2e] at s1
                  replace s1 := Lib.hid s1
                  obtain ⟨_, hga2, _, fo2⟩ := s1.out.1.natD (n := N) (Lib.hid (by rw [List.length_set]; exact hN'.out)) (k := j + i) (by omega)
                  cases hga2
                  obtain ⟨k1, k2, k3⟩ := fo2 (j + i) (by omega)
                  rw [getD_set_eq _ _ _ (by rw [hN'.out]; omega), ht2e] at k1
                  obtain ⟨r, hr⟩ : ∃ r, r = t2 - S % 1000000000 := ⟨_, rfl⟩
                  have hrl : r < 1000000000 := by omega
                  have hrr : Hid (t2 - (c + p) % 1000000000 = r) := Lib.hid (by rw [hr, hS0])
                  have hri : Hid ((u : Int) + 1000000000 - ((c : Int) + (p : Int)) % 1000000000 = (r : Int)) := Lib.hid (by omega)
                  replace ht2e := Lib.hid ht2e
                  have s2 := k3 r w0 φ s1.out.2
                  rw [List.set_set] at s2
                  have HS2 := Lib.hid s2
                  have hnx := Lib.hid (hI.out.next (s := S) (e := 1) (q := r) (by rw [hN.out]; exact hj) hin hu.out hSe.out (by show r + S = u + (S / 1000000000 + 1) * 1000000000; omega) (by show r < 1000000000; omega))
                  have hbi : Hid (((c : Int) + (p : Int)) / 1000000000 + 1 = ((S / lb + 1 : Nat) : Int)) := Lib.hid (by show _ = ((S / 1000000000 + 1 : Nat) : Int); omega)
                  have hbl : S / lb + 1 ≤ 1000000000 := by show S / 1000000000 + 1 ≤ _; omega
                  clear fo fo2 c3 k3 s2
                  go_wp2
                  try rw [hri.out]
                  rw [hbi.out]
                  try rw [hrr.out]
                  go_roundw
                  case rel => exact ⟨i + 1, S / lb + 1, us'.set (j + i) r, by omega, hbl, rfl, by go_num, hnx, Lib.hid ⟨HS2.out.2, HS2.out.1⟩⟩
                  case measure => (simp [intOf] <;> omega)
                · have hloi : ¬ (u : Int) < ((c : Int) + (p : Int)) % 1000000000 := by omega
                  obtain ⟨r, hr⟩ : ∃ r, r = u - S % 1000000000 := ⟨_, rfl⟩
                  have hrl : r < 1000000000 := by omega
                  have hrr : Hid (u - (c + p) % 1000000000 = r) := Lib.hid (by rw [hr, hS0])
                  have hri : (u : Int) - ((c : Int) + (p : Int)) % 1000000000 = (r : Int) := by omega
                  have HS2 := Lib.hid (c3 r w0 φ hSi.out.inv)
                  have hnx := Lib.hid (hI.out.next (s := S) (e := 0) (q := r) (by rw [hN.out]; exact hj) hin hu.out hSe.out (by show r + S = u + (S / 1000000000 + 0) * 1000000000; omega) (by show r < 1000000000; omega))
                  have hbi : Hid (((c : Int) + (p : Int)) / 1000000000 = ((S / lb + 0 : Nat) : Int)) := Lib.hid (by show _ = ((S / 1000000000 + 0 : Nat) : Int); omega)
                  have hbl : S / lb + 0 ≤ 1000000000 := by show S / 1000000000 + 0 ≤ _; omega
                  clear fo c3
                  go_wp2
                  rw [hbi.out]
                  try rw [hrr.out]
                  go_roundw
                  case rel => exact ⟨i + 1, S / lb + 0, us'.set (j + i) r, by omega, hbl, rfl, by go_num, hnx, Lib.hid ⟨HS2.out.2, HS2.out.1⟩⟩
                  case measure => (simp [intOf] <;> omega)
              · have hlti : ¬ (i : Int) < (n : Int) := by omega
                obtain ⟨S, hS0⟩ : ∃ S, S = c := ⟨_, rfl⟩
                have hSe : Hid (S = c + gq * V.getD i 0) := Lib.hid (by
                  rw [List.getD_eq_getElem?_getD, List.getElem?_eq_none (by rw [hV.out]; omega), hS0]; rfl)
                have hSl : S ≤ 1000000000 := by omega
                by_cases hlo : u < S % 1000000000
                · have hloi : (u : Int) < (c : Int) % 1000000000 := by omega
                  obtain ⟨t2, ht2⟩ : ∃ t, t = u + 1000000000 := ⟨_, rfl⟩
                  have ht2e : (t2 : Int) = (u : Int) + 1000000000 := by omega
                  have ht2l : t2 < 2000000000 := by omega
                  have s1 := c3 t2 w0 φ hSi.out.inv
                  rw [ht2e] at s1
                  replace s1 := Lib.hid s1
                  obtain ⟨_, hga2, _, fo2⟩ := s1.out.1.natD (n := N) (Lib.hid (by rw [List.length_set]; exact hN'.out)) (k := j + i) (by omega)
                  cases hga2
                  obtain ⟨k1, k2, k3⟩ := fo2 (j + i) (by omega)
                  rw [getD_set_eq _ _ _ (by rw [hN'.out]; omega), ht2e] at k1
                  obtain ⟨r, hr⟩ : ∃ r, r = t2 - S % 1000000000 := ⟨_, rfl⟩
                  have hrl : r < 1000000000 := by omega
                  have hrr : Hid (t2 - c % 1000000000 = r) := Lib.hid (by rw [hr, hS0])
                  have hri : Hid ((u : Int) + 1000000000 - (c : Int) % 1000000000 = (r : Int)) := Lib.hid (by omega)
                  replace ht2e := Lib.hid ht2e
                  have s2 := k3 r w0 φ s1.out.2
                  rw [List.set_set] at s2
                  have HS2 := Lib.hid s2
                  have hnx := Lib.hid (hI.out.next (s := S) (e := 1) (q := r) (by rw [hN.out]; exact hj) hin hu.out hSe.out (by show r + S = u + (S / 1000000000 + 1) * 1000000000; omega) (by show r < 1000000000; omega))
                  have hbi : Hid ((c : Int) / 1000000000 + 1 = ((S / lb + 1 : Nat) : Int)) := Lib.hid (by show _ = ((S / 1000000000 + 1 : Nat) : Int); omega)
                  have hbl : S / lb + 1 ≤ 1000000000 := by show S / 1000000000 + 1 ≤ _; omega
                  clear fo fo2 c3 k3 s2
                  go_wp2
                  try rw [hri.out]
                  rw [hbi.out]
                  try rw [hrr.out]
                  go_roundw
                  case rel => exact ⟨i + 1, S / lb + 1, us'.set (j + i) r, by omega, hbl, rfl, by go_num, hnx, Lib.hid ⟨HS2.out.2, HS2.out.1⟩⟩
                  case measure => (simp [intOf] <;> omega)
                · have hloi : ¬ (u : Int) < (c : Int) % 1000000000 := by omega
                  obtain ⟨r, hr⟩ : ∃ r, r = u - S % 1000000000 := ⟨_, rfl⟩
                  have hrl : r < 1000000000 := by omega
                  have hrr : Hid (u - c % 1000000000 = r) := Lib.hid (by rw [hr, hS0])
                  have hri : (u : Int) - (c : Int) % 1000000000 = (r : Int) := by omega
                  have HS2 := Lib.hid (c3 r w0 φ hSi.out.inv)
                  have hnx := Lib.hid (hI.out.next (s := S) (e := 0) (q := r) (by rw [hN.out]; exact hj) hin hu.out hSe.out (by show r + S = u + (S / 1000000000 + 0) * 1000000000; omega) (by show r < 1000000000; omega))
                  have hbi : Hid ((c : Int) / 1000000000 = ((S / lb + 0 : Nat) : Int)) := Lib.hid (by show _ = ((S / 1000000000 + 0 : Nat) : Int); omega)
                  have hbl : S / lb + 0 ≤ 1000000000 := by show S / 1000000000 + 0 ≤ _; omega
                  clear fo c3
                  go_wp2
                  rw [hbi.out]
                  try rw [hrr.out]
                  go_roundw
                  case rel => exact ⟨i + 1, S / lb + 0, us'.set (j + i) r, by omega, hbl, rfl, by go_num, hnx, Lib.hid ⟨HS2.out.2, HS2.out.1⟩⟩
                  case measure => (simp [intOf] <;> omega)
            · obtain rfl : i = n + 1 := by omega
              have hini : ¬ ((n : Int) + 1) ≤ (n : Int) := by omega
              have hini2 : ¬ (((n + 1 : Nat) : Int)) ≤ (n : Int) := by omega
              have hE := hI.out.eq
              rw [List.take_of_length_le (l := V) (by rw [hV.out]; omega), hv.out, hU.out] at hE
              have hEnd := sub_end hvp.out hvM.out hE (win_lt hI.out.win.lim (by rw [hI.out.win.len, hN.out]; exact hj)) (by rw [hq.out]; exact hgq.out.1) (by rw [hq.out]; exact hg1.out)
              rw [hq.out] at hEnd
              replace hEnd := Lib.hid hEnd
              clear hE
              by_cases hc0 : c = 0
              · have he := Lib.hid (hEnd.out.1 hc0)
                have hgr : Hid (((gq : Nat) : Int) = ((U / v : Nat) : Int)) := Lib.hid (by rw [hq.out, he.out.1])
                subst hc0
                go_wp2
                go_ret
                refine ⟨us', ?_, hI.out.win, he.out.2, hSi.out⟩
                exact congrArg (fun z => Ending.returned (.int .u64 z)) hgr.out
              · obtain rfl : c = 1 := (hEnd.out.2 hc0).2.1
                have he := Lib.hid (hEnd.out.2 hc0)
                go_wp2
                go_loopw [12, 13] (fun cv iv wi => ∃ (i c2 : Nat) (us2 : List Nat), i ≤ n + 1 ∧ c2 ≤ 1 ∧ cv = .int .u64 (c2 : Int) ∧ iv = .int .i64 (i : Int) ∧ Hid (AddI us' us2 V j n i c2) ∧ Hid (OwSt w0 φ 215 (some ⟨g, 0, none⟩) cu us2 wi)) (fun _ iv _ => n + 1 - (intOf iv).toNat)
                case atStart => exact ⟨0, 0, us', Nat.zero_le _, Nat.zero_le _, rfl, rfl, Lib.hid (AddI.start hI.out.win.lim V j n), hSi⟩
                case round =>
                  clear hSi
                  obtain ⟨i, c2, us2, hi, hc, rfl, rfl, hI2, hSi2⟩ := hrel
                  rename World => wi2
                  have hN2 : Hid (us2.length = N) := Lib.hid (by rw [hI2.out.win.len]; exact hN'.out)
                  by_cases hin : i ≤ n
                  · have hini : (i : Int) ≤ (n : Int) := by omega
                    obtain ⟨u, hu⟩ : ∃ u, Hid (us2.getD (j + i) 0 = u) := ⟨_, Lib.hid rfl⟩
                    obtain ⟨gg, hga, hgl, fo⟩ := hSi2.out.own.natD hN2 (k := j + i) (by omega)
                    cases hga
                    obtain ⟨k1, k2, c3⟩ := fo (j + i) (by omega)
                    rw [hu.out] at k1
                    have hul : u < 1000000000 := by rw [← hu.out]; exact hI2.out.win.lim.getD _
                    have hib : (i : Int) < (n : Int) + 1 := by omega
                    by_cases hlt : i < n
                    · have hlti : (i : Int) < (n : Int) := by omega
                      obtain ⟨_, _, hbb, f⟩ := sv.natD hV (k := i) hlt
                      cases hbb
                      have d2 := (f i hlt wi2 hSi2.out.inv.fz).2
                      obtain ⟨y, hy⟩ : ∃ y, Hid (V.getD i 0 = y) := ⟨_, Lib.hid rfl⟩
                      have hyl : y < 1000000000 := by rw [← hy.out]; exact hLV.out.getD _
                      rw [hy.out] at d2
                      have hSe : Hid (u + c2 + y = u + c2 + V.getD i 0) := Lib.hid (by rw [hy.out])
                      clear f
                      have hsl : u + c2 + y < 2000000000 := by omega
                      have hSm : Hid (((u : Int) + (c2 : Int) + (y : Int)) % 1000000000 = (((u + c2 + y) % lb : Nat) : Int)) := Lib.hid (by show _ = (((u + c2 + y) % 1000000000 : Nat) : Int); omega)
                      have hSd : Hid (((u : Int) + (c2 : Int) + (y : Int)) / 1000000000 = (((u + c2 + y) / lb : Nat) : Int)) := Lib.hid (by show _ = (((u + c2 + y) / 1000000000 : Nat) : Int); omega)
                      have hc1 : (u + c2 + y) / lb ≤ 1 := by show (u + c2 + y) / 1000000000 ≤ 1; omega
                      have HS2 := Lib.hid (c3 ((u + c2 + y) % lb) w0 φ hSi2.out.inv)
                      clear fo c3
                      go_wp2
                      rw [hSm.out, hSd.out]
                      go_roundw
                      case rel => exact ⟨i + 1, (u + c2 + y) / lb, us2.set (j + i) ((u + c2 + y) % lb), by omega, hc1, rfl, by go_num, Lib.hid (hI2.out.next (by rw [hN'.out]; exact hj) hin hu.out hSe.out), Lib.hid ⟨HS2.out.2, HS2.out.1⟩⟩
                      case measure => (simp [intOf] <;> omega)
                    · have hlti : ¬ (i : Int) < (n : Int) := by omega
                      have hSe : Hid (u + c2 = u + c2 + V.getD i 0) := Lib.hid (by
                        rw [List.getD_eq_getElem?_getD, List.getElem?_eq_none (by rw [hV.out]; omega)]; rfl)
                      have hsl : u + c2 < 2000000000 := by omega
                      have hSm : Hid (((u : Int) + (c2 : Int)) % 1000000000 = (((u + c2) % lb : Nat) : Int)) := Lib.hid (by show _ = (((u + c2) % 1000000000 : Nat) : Int); omega)
                      have hSd : Hid (((u : Int) + (c2 : Int)) / 1000000000 = (((u + c2) / lb : Nat) : Int)) := Lib.hid (by show _ = (((u + c2) / 1000000000 : Nat) : Int); omega)
                      have hc1 : (u + c2) / lb ≤ 1 := by show (u + c2) / 1000000000 ≤ 1; omega
                      have HS2 := Lib.hid (c3 ((u + c2) % lb) w0 φ hSi2.out.inv)
                      clear fo c3
                      go_wp2
                      rw [hSm.out, hSd.out]
                      go_roundw
                      case rel => exact ⟨i + 1, (u + c2) / lb, us2.set (j + i) ((u + c2) % lb), by omega, hc1, rfl, by go_num, Lib.hid (hI2.out.next (by rw [hN'.out]; exact hj) hin hu.out hSe.out), Lib.hid ⟨HS2.out.2, HS2.out.1⟩⟩
                      case measure => (simp [intOf] <;> omega)
                  · obtain rfl : i = n + 1 := by omega
                    have hini : ¬ ((n : Int) + 1) ≤ (n : Int) := by omega
                    have hini2 : ¬ (((n + 1 : Nat) : Int)) ≤ (n : Int) := by omega
                    have hE := hI2.out.eq
                    rw [List.take_of_length_le (l := V) (by rw [hV.out]; omega), hv.out] at hE
                    have hB := Lib.hid (add_end hE he.out.2.2 (win_lt hI2.out.win.lim (by rw [hI2.out.win.len, hN'.out]; exact hj)) (Nat.lt_of_lt_of_le (Nat.mod_lt _ hvp.out) hvM.out))
                    have hgi : Hid (((gq : Nat) : Int) - 1 = ((U / v : Nat) : Int)) := Lib.hid (by rw [hq.out]; have := he.out.1; omega)
                    clear hE
                    go_wp2
                    go_ret
                    exact ⟨us2, congrArg (fun z => Ending.returned (.int .u64 z)) hgi.out, hI.out.win.trans hI2.out.win, hB.out, hSi2.out⟩
        · have hg1 := Lib.hid (D.out.next hgq.out.2 (by rw [hq.out]; exact hgq.out.1) ht.out)
          rw [hq.out] at hg1
          have hgi : (gq : Int) - 1 = ((gq - 1 : Nat) : Int) := by omega
          go_wp2_with (go_at_call 293; refine (tooMuch_any hS.out.inv.fz sv hV hn2 (by omega) hv1 hv2 bv1 bv2 hg9 ht18 bx0 hgq.out.2 ht).mono ?_; rintro e w' ⟨rfl, rfl⟩)
          go_roundw
          case rel => exact ⟨gq - 1, rfl, hg1, by omega, hS⟩
          case measure => simp [intOf]; omega
      · have hzi : ¬ (0 : Int) < (gq : Int) := by omega
        have hg1 := Lib.hid (D.out.stop hgq.out.2 hg9 (.inl (by omega)))
        rw [hq.out] at hg1
        have HZ := Lib.hid (show gq = 0 by omega)
        go_wp2
        go_wp2
        go_loopw [8, 9] (fun cv iv wi => ∃ (i c : Nat) (us' : List Nat), i ≤ n + 1 ∧ c ≤ 1000000000 ∧ cv = .int .u64 (c : Int) ∧ iv = .int .i64 (i : Int) ∧ Hid (SubI us us' V j n gq i c) ∧ Hid (OwSt w0 φ 215 (some ⟨g, 0, none⟩) cu us' wi)) (fun _ iv _ => n + 1 - (intOf iv).toNat)
        case atStart => exact ⟨0, 0, us, Nat.zero_le _, Nat.zero_le _, rfl, rfl, Lib.hid (SubI.start hL.out V j n gq), hS⟩
        case round =>
          clear hS
          obtain ⟨i, c, us', hi, hc, rfl, rfl, hI, hSi⟩ := hrel
          rename World => wi
          have hN' : Hid (us'.length = N) := Lib.hid (by rw [hI.out.win.len]; exact hN.out)
          by_cases hin : i ≤ n
          · have hini : (i : Int) ≤ (n : Int) := by omega
            obtain ⟨u, hu⟩ : ∃ u, Hid (us'.getD (j + i) 0 = u) := ⟨_, Lib.hid rfl⟩
            obtain ⟨gg, hga, hgl, fo⟩ := hSi.out.own.natD hN' (k := j + i) (by omega)
            cases hga
            obtain ⟨c1, c2, c3⟩ := fo (j + i) (by omega)
            rw [hu.out] at c1
            have hul : u < 1000000000 := by rw [← hu.out]; exact hI.out.win.lim.getD _
            have hib : (i : Int) < (n : Int) + 1 := by omega
            by_cases hlt : i < n
            · have hlti : (i : Int) < (n : Int) := by omega
              obtain ⟨_, _, hbb, f⟩ := sv.natD hV (k := i) hlt
              cases hbb
              have d2 := (f i hlt wi hSi.out.inv.fz).2
              obtain ⟨y, hy⟩ : ∃ y, Hid (V.getD i 0 = y) := ⟨_, Lib.hid rfl⟩
              have hyl : y < 1000000000 := by rw [← hy.out]; exact hLV.out.getD _
              rw [hy.out] at d2
              obtain ⟨p, hp⟩ : ∃ p, p = gq * y := ⟨_, rfl⟩
              have hpl : p ≤ 999999999 * 999999999 := by rw [hp]; exact Nat.mul_le_mul (by omega) (by omega)
              have hpi : ((gq : Nat) : Int) * (y : Int) = (p : Int) := by rw [hp]; exact (Int.natCast_mul gq y).symm
              obtain ⟨S, hS0⟩ : ∃ S, S = c + p := ⟨_, rfl⟩
              have hSe : Hid (S = c + gq * V.getD i 0) := Lib.hid (by rw [hy.out, hS0, hp])
              have hSl : S ≤ 999999998000000001 + 1000000000 := by omega
              clear hp f
              by_cases hlo : u < S % 1000000000
              · have hloi : (u : Int) < ((c : Int) + (p : Int)) % 1000000000 := by omega
                obtain ⟨t2, ht2⟩ : ∃ t, t = u + 1000000000 := ⟨_, rfl⟩
                have ht2e : (t2 : Int) = (u : Int) + 1000000000 := by omega
                have ht2l : t2 < 2000000000 := by omega
                have s1 := c3 t2 w0 φ hSi.out.inv
                rw [ht2e] at s1
                replace s1 := Lib.hid s1
                obtain ⟨_, hga2, _, fo2⟩ := s1.out.1.natD (n := N) (Lib.hid (by rw [List.length_set]; exact hN'.out)) (k := j + i) (by omega)
                cases hga2
                obtain ⟨k1, k2, k3⟩ := fo2 (j + i) (by omega)
                rw [getD_set_eq _ _ _ (by rw [hN'.out]; omega), ht2e] at k1
                obtain ⟨r, hr⟩ : ∃ r, r = t2 - S % 1000000000 := ⟨_, rfl⟩
                have hrl : r < 1000000000 := by omega
                have hrr : Hid (t2 - (c + p) % 1000000000 = r) := Lib.hid (by rw [hr, hS0])
                have hri : Hid ((u : Int) + 1000000000 - ((c : Int) + (p : Int)) % 1000000000 = (r : Int)) := Lib.hid (by omega)
                replace ht2e := Lib.hid ht2e
                have s2 := k3 r w0 φ s1.out.2
                rw [List.set_set] at s2
                have HS2 := Lib.hid s2
                have hnx := Lib.hid (hI.out.next (s := S) (e := 1) (q := r) (by rw [hN.out]; exact hj) hin hu.out hSe.out (by show r + S = u + (S / 1000000000 + 1) * 1000000000; omega) (by show r < 1000000000; omega))
                have hbi : Hid (((c : Int) + (p : Int)) / 1000000000 + 1 = ((S / lb + 1 : Nat) : Int)) := Lib.hid (by show _ = ((S / 1000000000 + 1 : Nat) : Int); omega)
                have hbl : S / lb + 1 ≤ 1000000000 := by show S / 1000000000 + 1 ≤ _; omega
                clear fo fo2 c3 k3 s2
                go_wp2
                try rw [hri.out]
                rw [hbi.out]
                try rw [hrr.out]
                go_roundw
                case rel => exact ⟨i + 1, S / lb + 1, us'.set (j + i) r, by omega, hbl, rfl, by go_num, hnx, Lib.hid ⟨HS2.out.2, HS2.out.1⟩⟩
                case measure => (simp [intOf] <;> omega)
              · have hloi : ¬ (u : Int) < ((c : Int) + (p : Int)) % 1000000000 := by omega
                obtain ⟨r, hr⟩ : ∃ r, r = u - S % 1000000000 := ⟨_, rfl⟩
                have hrl : r < 1000000000 := by omega
                have hrr : Hid (u - (c + p) % 1000000000 = r) := Lib.hid (by rw [hr, hS0])
                have hri : (u : Int) - ((c : Int) + (p : Int)) % 1000000000 = (r : Int) := by omega
                have HS2 := Lib.hid (c3 r w0 φ hSi.out.inv)
                have hnx := Lib.hid (hI.out.next (s := S) (e := 0) (q := r) (by rw [hN.out]; exact hj) hin hu.out hSe.out (by show r + S = u + (S / 1000000000 + 0) * 1000000000; omega) (by show r < 1000000000; omega))
                have hbi : Hid (((c : Int) + (p : Int)) / 1000000000 = ((S / lb + 0 : Nat) : Int)) := Lib.hid (by show _ = ((S / 1000000000 + 0 : Nat) : Int); omega)
                have hbl : S / lb + 0 ≤ 1000000000 := by show S / 1000000000 + 0 ≤ _; omega
                clear fo c3
                go_wp2
                rw [hbi.out]
                try rw [hrr.out]
                go_roundw
                case rel => exact ⟨i + 1, S / lb + 0, us'.set (j + i) r, by omega, hbl, rfl, by go_num, hnx, Lib.hid ⟨HS2.out.2, HS2.out.1⟩⟩
                case measure => (simp [intOf] <;> omega)
            · have hlti : ¬ (i : Int) < (n : Int) := by omega
              obtain ⟨S, hS0⟩ : ∃ S, S = c := ⟨_, rfl⟩
              have hSe : Hid (S = c + gq * V.getD i 0) := Lib.hid (by
                rw [List.getD_eq_getElem?_getD, List.getElem?_eq_none (by rw [hV.out]; omega), hS0]; rfl)
              have hSl : S ≤ 1000000000 := by omega
              by_cases hlo : u < S % 1000000000
              · have hloi : (u : Int) < (c : Int) % 1000000000 := by omega
                obtain ⟨t2, ht2⟩ : ∃ t, t = u + 1000000000 := ⟨_, rfl⟩
                have ht2e : (t2 : Int) = (u : Int) + 1000000000 := by omega
                have ht2l : t2 < 2000000000 := by omega
                have s1 := c3 t2 w0 φ hSi.out.inv
                rw [ht2e] at s1
                replace s1 := Lib.hid s1
                obtain ⟨_, hga2, _, fo2⟩ := s1.out.1.natD (n := N) (Lib.hid (by rw [List.length_set]; exact hN'.out)) (k := j + i) (by omega)
                cases hga2
                obtain ⟨k1, k2, k3⟩ := fo2 (j + i) (by omega)
                rw [getD_set_eq _ _ _ (by rw [hN'.out]; omega), ht2e] at k1
                obtain ⟨r, hr⟩ : ∃ r, r = t2 - S % 1000000000 := ⟨_, rfl⟩
                have hrl : r < 1000000000 := by omega
                have hrr : Hid (t2 - c % 1000000000 = r) := Lib.hid (by rw [hr, hS0])
                have hri : Hid ((u : Int) + 1000000000 - (c : Int) % 1000000000 = (r : Int)) := Lib.hid (by omega)
                replace ht2e := Lib.hid ht2e
                have s2 := k3 r w0 φ s1.out.2
                rw [List.set_set] at s2
                have HS2 := Lib.hid s2
                have hnx := Lib.hid (hI.out.next (s := S) (e := 1) (q := r) (by rw [hN.out]; exact hj) hin hu.out hSe.out (by show r + S = u + (S / 1000000000 + 1) * 1000000000; omega) (by show r < 1000000000; omega))
                have hbi : Hid ((c : Int) / 1000000000 + 1 = ((S / lb + 1 : Nat) : Int)) := Lib.hid (by show _ = ((S / 1000000000 + 1 : Nat) : Int); omega)
                have hbl : S / lb + 1 ≤ 1000000000 := by show S / 1000000000 + 1 ≤ _; omega
                clear fo fo2 c3 k3 s2
                go_wp2
                try rw [hri.out]
                rw [hbi.out]
                try rw [hrr.out]
                go_roundw
                case rel => exact ⟨i + 1, S / lb + 1, us'.set (j + i) r, by omega, hbl, rfl, by go_num, hnx, Lib.hid ⟨HS2.out.2, HS2.out.1⟩⟩
                case measure => (simp [intOf] <;> omega)
              · have hloi : ¬ (u : Int) < (c : Int) % 1000000000 := by omega
                obtain ⟨r, hr⟩ : ∃ r, r = u - S % 1000000000 := ⟨_, rfl⟩
                have hrl : r < 1000000000 := by omega
                have hrr : Hid (u - c % 1000000000 = r) := Lib.hid (by rw [hr, hS0])
                have hri : (u : Int) - (c : Int) % 1000000000 = (r : Int) := by omega
                have HS2 := Lib.hid (c3 r w0 φ hSi.out.inv)
                have hnx := Lib.hid (hI.out.next (s := S) (e := 0) (q := r) (by rw [hN.out]; exact hj) hin hu.out hSe.out (by show r + S = u + (S / 1000000000 + 0) * 1000000000; omega) (by show r < 1000000000; omega))
                have hbi : Hid ((c : Int) / 1000000000 = ((S / lb + 0 : Nat) : Int)) := Lib.hid (by show _ = ((S / 1000000000 + 0 : Nat) : Int); omega)
                have hbl : S / lb + 0 ≤ 1000000000 := by show S / 1000000000 + 0 ≤ _; omega
                clear fo c3
                go_wp2
                rw [hbi.out]
                try rw [hrr.out]
                go_roundw
                case rel => exact ⟨i + 1, S / lb + 0, us'.set (j + i) r, by omega, hbl, rfl, by go_num, hnx, Lib.hid ⟨HS2.out.2, HS2.out.1⟩⟩
                case measure => (simp [intOf] <;> omega)
          · obtain rfl : i = n + 1 := by omega
            have hini : ¬ ((n : Int) + 1) ≤ (n : Int) := by omega
            have hini2 : ¬ (((n + 1 : Nat) : Int)) ≤ (n : Int) := by omega
            have hE := hI.out.eq
            rw [List.take_of_length_le (l := V) (by rw [hV.out]; omega), hv.out, hU.out] at hE
            have hEnd := sub_end hvp.out hvM.out hE (win_lt hI.out.win.lim (by rw [hI.out.win.len, hN.out]; exact hj)) (by rw [hq.out]; exact hgq.out.1) (by rw [hq.out]; exact hg1.out)
            rw [hq.out] at hEnd
            replace hEnd := Lib.hid hEnd
            clear hE
            by_cases hc0 : c = 0
            · have he := Lib.hid (hEnd.out.1 hc0)
              have hgr : Hid (((gq : Nat) : Int) = ((U / v : Nat) : Int)) := Lib.hid (by rw [hq.out, he.out.1])
              subst hc0
              go_wp2
              go_ret
              refine ⟨us', ?_, hI.out.win, he.out.2, hSi.out⟩
              exact congrArg (fun z => Ending.returned (.int .u64 z)) hgr.out
            · obtain rfl : c = 1 := (hEnd.out.2 hc0).2.1
              have he := Lib.hid (hEnd.out.2 hc0)
              exact absurd he.out.1 (by have := HZ.out; omega)
  · have hmi : 999999999 < ((x2 : Int) * 1000000000 + (x1 : Int)) / (v1 : Int) := by rw [HTI.out, hgq.out]; omega
    have hge : Hid ((999999999 : Int) = (g0 : Int)) := Lib.hid (by
      rw [← hg0.out, Nat.min_eq_right (by show 1000000000 - 1 ≤ _; omega)]; rfl)
    go_enter Tryz.func282, Tryz.ntmps282
    go_wp2
    go_quiet (fail)
    go_wp2
    all_goals rw [HTI.out, hge.out]
    go_loopw [7] (fun gv wr => ∃ gq : Nat, gv = .int .u64 (gq : Int) ∧ Hid (q ≤ gq ∧ gq * v1 ≤ top) ∧ gq < 1000000000 ∧ Hid (OwSt w0 φ 215 (some ⟨g, 0, none⟩) cu us wr)) (fun gv _ => (intOf gv).toNat)
    case atStart => exact ⟨g0, rfl, hst, hg9, Lib.hid (h.out.drewN _)⟩
    case round =>
      clear h hst hge hm hmi
      obtain ⟨gq, rfl, hgq, hg9, hS⟩ := hrel
      obtain ⟨t, ht⟩ : ∃ t, Hid (tmB top gq v1 v2 x0 = t) := ⟨_, Lib.hid rfl⟩
      by_cases hz : 0 < gq
      · have hzi : (0 : Int) < (gq : Int) := by omega
        obtain ⟨gg, hga, hgl, fo⟩ := hS.out.own.natD hN (k := j) (by omega)
        cases hga
        have c0 := (fo (j + (n - 2)) (by omega)).1
        rw [hx0.out] at c0
        have hy1 : (0 : Int) ≤ (n : Int) - 2 := by omega
        have hy2 : (n : Int) - 2 < (n : Int) + 1 := by omega
        have hto2 : ((n : Int) - 2).toNat = n - 2 := by omega
        clear fo
        cases t
        · have hg1 := Lib.hid (D.out.stop hgq.out.2 hg9 (.inr ht.out))
          rw [hq.out] at hg1
          go_wp2_with (go_at_call 293; refine (tooMuch_any hS.out.inv.fz sv hV hn2 (by omega) hv1 hv2 bv1 bv2 hg9 ht18 bx0 hgq.out.2 ht).mono ?_; rintro e w' ⟨rfl, rfl⟩)
          go_wp2
          go_loopw [8, 9] (fun cv iv wi => ∃ (i c : Nat) (us' : List Nat), i ≤ n + 1 ∧ c ≤ 1000000000 ∧ cv = .int .u64 (c : Int) ∧ iv = .int .i64 (i : Int) ∧ Hid (SubI us us' V j n gq i c) ∧ Hid (OwSt w0 φ 215 (some ⟨g, 0, none⟩) cu us' wi)) (fun _ iv _ => n + 1 - (intOf iv).toNat)
          case atStart => exact ⟨0, 0, us, Nat.zero_le _, Nat.zero_le _, rfl, rfl, Lib.hid (SubI.start hL.out V j n gq), hS⟩
          case round =>
            clear hS
            obtain ⟨i, c, us', hi, hc, rfl, rfl, hI, hSi⟩ := hrel
            rename World => wi
            have hN' : Hid (us'.length = N) := Lib.hid (by rw [hI.out.win.len]; exact hN.out)
            by_cases hin : i ≤ n
            · have hini : (i : Int) ≤ (n : Int) := by omega
              obtain ⟨u, hu⟩ : ∃ u, Hid (us'.getD (j + i) 0 = u) := ⟨_, Lib.hid rfl⟩
              obtain ⟨gg, hga, hgl, fo⟩ := hSi.out.own.natD hN' (k := j + i) (by omega)
              cases hga
              obtain ⟨c1, c2, c3⟩ := fo (j + i) (by omega)
              rw [hu.out] at c1
              have hul : u < 1000000000 := by rw [← hu.out]; exact hI.out.win.lim.getD _
              have hib : (i : Int) < (n : Int) + 1 := by omega
              by_cases hlt : i < n
              · have hlti : (i : Int) < (n : Int) := by omega
                obtain ⟨_, _, hbb, f⟩ := sv.natD hV (k := i) hlt
                cases hbb
                have d2 := (f i hlt wi hSi.out.inv.fz).2
                obtain ⟨y, hy⟩ : ∃ y, Hid (V.getD i 0 = y) := ⟨_, Lib.hid rfl⟩
                have hyl : y < 1000000000 := by rw [← hy.out]; exact hLV.out.getD _
                rw [hy.out] at d2
                obtain ⟨p, hp⟩ : ∃ p, p = gq * y := ⟨_, rfl⟩
                have hpl : p ≤ 999999999 * 999999999 := by rw [hp]; exact Nat.mul_le_mul (by omega) (by omega)
                have hpi : ((gq : Nat) : Int) * (y : Int) = (p : Int) := by rw [hp]; exact (Int.natCast_mul gq y).symm
                obtain ⟨S, hS0⟩ : ∃ S, S = c + p := ⟨_, rfl⟩
                have hSe : Hid (S = c + gq * V.getD i 0) := Lib.hid (by rw [hy.out, hS0, hp])
                have hSl : S ≤ 999999998000000001 + 1000000000 := by omega
                clear hp f
                by_cases hlo : u < S % 1000000000
                · have hloi : (u : Int) < ((c : Int) + (p : Int)) % 1000000000 := by omega
                  obtain ⟨t2, ht2⟩ : ∃ t, t = u + 1000000000 := ⟨_, rfl⟩
                  have ht2e : (t2 : Int) = (u : Int) + 1000000000 := by omega
                  have ht2l : t2 < 2000000000 := by omega
                  have s1 := c3 t2 w0 φ hSi.out.inv
                  rw [ht2e] at s1
                  replace s1 := Lib.hid s1
                  obtain ⟨_, hga2, _, fo2⟩ := s1.out.1.natD (n := N) (Lib.hid (by rw [List.length_set]; exact hN'.out)) (k := j + i) (by omega)
                  cases hga2
                  obtain ⟨k1, k2, k3⟩ := fo2 (j + i) (by omega)
                  rw [getD_set_eq _ _ _ (by rw [hN'.out]; omega), ht2e] at k1
                  obtain ⟨r, hr⟩ : ∃ r, r = t2 - S % 1000000000 := ⟨_, rfl⟩
                  have hrl : r < 1000000000 := by omega
                  have hrr : Hid (t2 - (c + p) % 1000000000 = r) := Lib.hid (by rw [hr, hS0])
                  have hri : Hid ((u : Int) + 1000000000 - ((c : Int) + (p : Int)) % 1000000000 = (r : Int)) := Lib.hid (by omega)
                  replace ht2e := Lib.hid ht2e
                  have s2 := k3 r w0 φ s1.out.2
                  rw [List.set_set] at s2
                  have HS2 := Lib.hid s2
                  have hnx := Lib.hid (hI.out.next (s := S) (e := 1) (q := r) (by rw [hN.out]; exact hj) hin hu.out hSe.out (by show r + S = u + (S / 1000000000 + 1) * 1000000000; omega) (by show r < 1000000000; omega))
                  have hbi : Hid (((c : Int) + (p : Int)) / 1000000000 + 1 = ((S / lb + 1 : Nat) : Int)) := Lib.hid (by show _ = ((S / 1000000000 + 1 : Nat) : Int); omega)
                  have hbl : S / lb + 1 ≤ 1000000000 := by show S / 1000000000 + 1 ≤ _; omega
                  clear fo fo2 c3 k3 s2
                  go_wp2
                  try rw [hri.out]
                  rw [hbi.out]
                  try rw [hrr.out]
                  go_roundw
                  case rel => exact ⟨i + 1, S / lb + 1, us'.set (j + i) r, by omega, hbl, rfl, by go_num, hnx, Lib.hid ⟨HS2.out.2, HS2.out.1⟩⟩
                  case measure => (simp [intOf] <;> omega)
                · have hloi : ¬ (u : Int) < ((c : Int) + (p : Int)) % 1000000000 := by omega
                  obtain ⟨r, hr⟩ : ∃ r, r = u - S % 1000000000 := ⟨_, rfl⟩
                  have hrl : r < 1000000000 := by omega
                  have hrr : Hid (u - (c + p) % 1000000000 = r) := Lib.hid (by rw [hr, hS0])
                  have hri : (u : Int) - ((c : Int) + (p : Int)) % 1000000000 = (r : Int) := by omega
                  have HS2 := Lib.hid (c3 r w0 φ hSi.out.inv)
                  have hnx := Lib.hid (hI.out.next (s := S) (e := 0) (q := r) (by rw [hN.out]; exact hj) hin hu.out hSe.out (by show r + S = u + (S / 1000000000 + 0) * 1000000000; omega) (by show r < 1000000000; omega))
                  have hbi : Hid (((c : Int) + (p : Int)) / 1000000000 = ((S / lb + 0 : Nat) : Int)) := Lib.hid (by show _ = ((S / 1000000000 + 0 : Nat) : Int); omega)
                  have hbl : S / lb + 0 ≤ 1000000000 := by show S / 1000000000 + 0 ≤ _; omega
                  clear fo c3
                  go_wp2
                  rw [hbi.out]
                  try rw [hrr.out]
                  go_roundw
                  case rel => exact ⟨i + 1, S / lb + 0, us'.set (j + i) r, by omega, hbl, rfl, by go_num, hnx, Lib.hid ⟨HS2.out.2, HS2.out.1⟩⟩
                  case measure => (simp [intOf] <;> omega)
              · have hlti : ¬ (i : Int) < (n : Int) := by omega
                obtain ⟨S, hS0⟩ : ∃ S, S = c := ⟨_, rfl⟩
                have hSe : Hid (S = c + gq * V.getD i 0) := Lib.hid (by
                  rw [List.getD_eq_getElem?_getD, List.getElem?_eq_none (by rw [hV.out]; omega), hS0]; rfl)
                have hSl : S ≤ 1000000000 := by omega
                by_cases hlo : u < S % 1000000000
                · have hloi : (u : Int) < (c : Int) % 1000000000 := by omega
                  obtain ⟨t2, ht2⟩ : ∃ t, t = u + 1000000000 := ⟨_, rfl⟩
                  have ht2e : (t2 : Int) = (u : Int) + 1000000000 := by omega
                  have ht2l : t2 < 2000000000 := by omega
                  have s1 := c3 t2 w0 φ hSi.out.inv
                  rw [ht2e] at s1
                  replace s1 := Lib.hid s1
                  obtain ⟨_, hga2, _, fo2⟩ := s1.out.1.natD (n := N) (Lib.hid (by rw [List.length_set]; exact hN'.out)) (k := j + i) (by omega)
                  cases hga2
                  obtain ⟨k1, k2, k3⟩ := fo2 (j + i) (by omega)
                  rw [getD_set_eq _ _ _ (by rw [hN'.out]; omega), ht2e] at k1
                  obtain ⟨r, hr⟩ : ∃ r, r = t2 - S % 1000000000 := ⟨_, rfl⟩
                  have hrl : r < 1000000000 := by omega
                  have hrr : Hid (t2 - c % 1000000000 = r) := Lib.hid (by rw [hr, hS0])
                  have hri : Hid ((u : Int) + 1000000000 - (c : Int) % 1000000000 = (r : Int)) := Lib.hid (by omega)
                  replace ht2e := Lib.hid ht2e
                  have s2 := k3 r w0 φ s1.out.2
                  rw [List.set_set] at s2
                  have HS2 := Lib.hid s2
                  have hnx := Lib.hid (hI.out.next (s := S) (e := 1) (q := r) (by rw [hN.out]; exact hj) hin hu.out hSe.out (by show r + S = u + (S / 1000000000 + 1) * 1000000000; omega) (by show r < 1000000000; omega))
                  have hbi : Hid ((c : Int) / 1000000000 + 1 = ((S / lb + 1 : Nat) : Int)) := Lib.hid (by show _ = ((S / 1000000000 + 1 : Nat) : Int); omega)
                  have hbl : S / lb + 1 ≤ 1000000000 := by show S / 1000000000 + 1 ≤ _; omega
                  clear fo fo2 c3 k3 s2
                  go_wp2
                  try rw [hri.out]
                  rw [hbi.out]
                  try rw [hrr.out]
                  go_roundw
                  case rel => exact ⟨i + 1, S / lb + 1, us'.set (j + i) r, by omega, hbl, rfl, by go_num, hnx, Lib.hid ⟨HS2.out.2, HS2.out.1⟩⟩
                  case measure => (simp [intOf] <;> omega)
                · have hloi : ¬ (u : Int) < (c : Int) % 1000000000 := by omega
                  obtain ⟨r, hr⟩ : ∃ r, r = u - S % 1000000000 := ⟨_, rfl⟩
                  have hrl : r < 1000000000 := by omega
                  have hrr : Hid (u - c % 1000000000 = r) := Lib.hid (by rw [hr, hS0])
                  have hri : (u : Int) - (c : Int) % 1000000000 = (r : Int) := by omega
                  have HS2 := Lib.hid (c3 r w0 φ hSi.out.inv)
                  have hnx := Lib.hid (hI.out.next (s := S) (e := 0) (q := r) (by rw [hN.out]; exact hj) hin hu.out hSe.out (by show r + S = u + (S / 1000000000 + 0) * 1000000000; omega) (by show r < 1000000000; omega))
                  have hbi : Hid ((c : Int) / 1000000000 = ((S / lb + 0 : Nat) : Int)) := Lib.hid (by show _ = ((S / 1000000000 + 0 : Nat) : Int); omega)
                  have hbl : S / lb + 0 ≤ 1000000000 := by show S / 1000000000 + 0 ≤ _; omega
                  clear fo c3
                  go_wp2
                  rw [hbi.out]
                  try rw [hrr.out]
                  go_roundw
                  case rel => exact ⟨i + 1, S / lb + 0, us'.set (j + i) r, by omega, hbl, rfl, by go_num, hnx, Lib.hid ⟨HS2.out.2, HS2.out.1⟩⟩
                  case measure => (simp [intOf] <;> omega)
            · obtain rfl : i = n + 1 := by omega
              have hini : ¬ ((n : Int) + 1) ≤ (n : Int) := by omega
              have hini2 : ¬ (((n + 1 : Nat) : Int)) ≤ (n : Int) := by omega
              have hE := hI.out.eq
              rw [List.take_of_length_le (l := V) (by rw [hV.out]; omega), hv.out, hU.out] at hE
              have hEnd := sub_end hvp.out hvM.out hE (win_lt hI.out.win.lim (by rw [hI.out.win.len, hN.out]; exact hj)) (by rw [hq.out]; exact hgq.out.1) (by rw [hq.out]; exact hg1.out)
              rw [hq.out] at hEnd
              replace hEnd := Lib.hid hEnd
              clear hE
              by_cases hc0 : c = 0
              · have he := Lib.hid (hEnd.out.1 hc0)
                have hgr : Hid (((gq : Nat) : Int) = ((U / v : Nat) : Int)) := Lib.hid (by rw [hq.out, he.out.1])
                subst hc0
                go_wp2
                go_ret
                refine ⟨us', ?_, hI.out.win, he.out.2, hSi.out⟩
                exact congrArg (fun z => Ending.returned (.int .u64 z)) hgr.out
              · obtain rfl : c = 1 := (hEnd.out.2 hc0).2.1
                have he := Lib.hid (hEnd.out.2 hc0)
                go_wp2
                go_loopw [12, 13] (fun cv iv wi => ∃ (i c2 : Nat) (us2 : List Nat), i ≤ n + 1 ∧ c2 ≤ 1 ∧ cv = .int .u64 (c2 : Int) ∧ iv = .int .i64 (i : Int) ∧ Hid (AddI us' us2 V j n i c2) ∧ Hid (OwSt w0 φ 215 (some ⟨g, 0, none⟩) cu us2 wi)) (fun _ iv _ => n + 1 - (intOf iv).toNat)
                case atStart => exact ⟨0, 0, us', Nat.zero_le _, Nat.zero_le _, rfl, rfl, Lib.hid (AddI.start hI.out.win.lim V j n), hSi⟩
                case round =>
                  clear hSi
                  obtain ⟨i, c2, us2, hi, hc, rfl, rfl, hI2, hSi2⟩ := hrel
                  rename World => wi2
                  have hN2 : Hid (us2.length = N) := Lib.hid (by rw [hI2.out.win.len]; exact hN'.out)
                  by_cases hin : i ≤ n
                  · have hini : (i : Int) ≤ (n : Int) := by omega
                    obtain ⟨u, hu⟩ : ∃ u, Hid (us2.getD (j + i) 0 = u) := ⟨_, Lib.hid rfl⟩
                    obtain ⟨gg, hga, hgl, fo⟩ := hSi2.out.own.natD hN2 (k := j + i) (by omega)
                    cases hga
                    obtain ⟨k1, k2, c3⟩ := fo (j + i) (by omega)
                    rw [hu.out] at k1
                    have hul : u < 1000000000 := by rw [← hu.out]; exact hI2.out.win.lim.getD _
                    have hib : (i : Int) < (n : Int) + 1 := by omega
                    by_cases hlt : i < n
                    · have hlti : (i : Int) < (n : Int) := by omega
                      obtain ⟨_, _, hbb, f⟩ := sv.natD hV (k := i) hlt
                      cases hbb
                      have d2 := (f i hlt wi2 hSi2.out.inv.fz).2
                      obtain ⟨y, hy⟩ : ∃ y, Hid (V.getD i 0 = y) := ⟨_, Lib.hid rfl⟩
                      have hyl : y < 1000000000 := by rw [← hy.out]; exact hLV.out.getD _
                      rw [hy.out] at d2
                      have hSe : Hid (u + c2 + y = u + c2 + V.getD i 0) := Lib.hid (by rw [hy.out])
                      clear f
                      have hsl : u + c2 + y < 2000000000 := by omega
                      have hSm : Hid (((u : Int) + (c2 : Int) + (y : Int)) % 1000000000 = (((u + c2 + y) % lb : Nat) : Int)) := Lib.hid (by show _ = (((u + c2 + y) % 1000000000 : Nat) : Int); omega)
                      have hSd : Hid (((u : Int) + (c2 : Int) + (y : Int)) / 1000000000 = (((u + c2 + y) / lb : Nat) : Int)) := Lib.hid (by show _ = (((u + c2 + y) / 1000000000 : Nat) : Int); omega)
                      have hc1 : (u + c2 + y) / lb ≤ 1 := by show (u + c2 + y) / 1000000000 ≤ 1; omega
                      have HS2 := Lib.hid (c3 ((u + c2 + y) % lb) w0 φ hSi2.out.inv)
                      clear fo c3
                      go_wp2
                      rw [hSm.out, hSd.out]
                      go_roundw
                      case rel => exact ⟨i + 1, (u + c2 + y) / lb, us2.set (j + i) ((u + c2 + y) % lb), by omega, hc1, rfl, by go_num, Lib.hid (hI2.out.next (by rw [hN'.out]; exact hj) hin hu.out hSe.out), Lib.hid ⟨HS2.out.2, HS2.out.1⟩⟩
                      case measure => (simp [intOf] <;> omega)
                    · have hlti : ¬ (i : Int) < (n : Int) := by omega
                      have hSe : Hid (u + c2 = u + c2 + V.getD i 0) := Lib.hid (by
                        rw [List.getD_eq_getElem?_getD, List.getElem?_eq_none (by rw [hV.out]; omega)]; rfl)
                      have hsl : u + c2 < 2000000000 := by omega
                      have hSm : Hid (((u : Int) + (c2 : Int)) % 1000000000 = (((u + c2) % lb : Nat) : Int)) := Lib.hid (by show _ = (((u + c2) % 1000000000 : Nat) : Int); omega)
                      have hSd : Hid (((u : Int) + (c2 : Int)) / 1000000000 = (((u + c2) / lb : Nat) : Int)) := Lib.hid (by show _ = (((u + c2) / 1000000000 : Nat) : Int); omega)
                      have hc1 : (u + c2) / lb ≤ 1 := by show (u + c2) / 1000000000 ≤ 1; omega
                      have HS2 := Lib.hid (c3 ((u + c2) % lb) w0 φ hSi2.out.inv)
                      clear fo c3
                      go_wp2
                      rw [hSm.out, hSd.out]
                      go_roundw
                      case rel => exact ⟨i + 1, (u + c2) / lb, us2.set (j + i) ((u + c2) % lb), by omega, hc1, rfl, by go_num, Lib.hid (hI2.out.next (by rw [hN'.out]; exact hj) hin hu.out hSe.out), Lib.hid ⟨HS2.out.2, HS2.out.1⟩⟩
                      case measure => (simp [intOf] <;> omega)
                  · obtain rfl : i = n + 1 := by omega
                    have hini : ¬ ((n : Int) + 1) ≤ (n : Int) := by omega
                    have hini2 : ¬ (((n + 1 : Nat) : Int)) ≤ (n : Int) := by omega
                    have hE := hI2.out.eq
                    rw [List.take_of_length_le (l := V) (by rw [hV.out]; omega), hv.out] at hE
                    have hB := Lib.hid (add_end hE he.out.2.2 (win_lt hI2.out.win.lim (by rw [hI2.out.win.len, hN'.out]; exact hj)) (Nat.lt_of_lt_of_le (Nat.mod_lt _ hvp.out) hvM.out))
                    have hgi : Hid (((gq : Nat) : Int) - 1 = ((U / v : Nat) : Int)) := Lib.hid (by rw [hq.out]; have := he.out.1; omega)
                    clear hE
                    go_wp2
                    go_ret
                    exact ⟨us2, congrArg (fun z => Ending.returned (.int .u64 z)) hgi.out, hI.out.win.trans hI2.out.win, hB.out, hSi2.out⟩
        · have hg1 := Lib.hid (D.out.next hgq.out.2 (by rw [hq.out]; exact hgq.out.1) ht.out)
          rw [hq.out] at hg1
          have hgi : (gq : Int) - 1 = ((gq - 1 : Nat) : Int) := by omega
          go_wp2_with (go_at_call 293; refine (tooMuch_any hS.out.inv.fz sv hV hn2 (by omega) hv1 hv2 bv1 bv2 hg9 ht18 bx0 hgq.out.2 ht).mono ?_; rintro e w' ⟨rfl, rfl⟩)
          go_roundw
          case rel => exact ⟨gq - 1, rfl, hg1, by omega, hS⟩
          case measure => simp [intOf]; omega
      · have hzi : ¬ (0 : Int) < (gq : Int) := by omega
        have hg1 := Lib.hid (D.out.stop hgq.out.2 hg9 (.inl (by omega)))
        rw [hq.out] at hg1
        have HZ := Lib.hid (show gq = 0 by omega)
        go_wp2
        go_wp2
        go_loopw [8, 9] (fun cv iv wi => ∃ (i c : Nat) (us' : List Nat), i ≤ n + 1 ∧ c ≤ 1000000000 ∧ cv = .int .u64 (c : Int) ∧ iv = .int .i64 (i : Int) ∧ Hid (SubI us us' V j n gq i c) ∧ Hid (OwSt w0 φ 215 (some ⟨g, 0, none⟩) cu us' wi)) (fun _ iv _ => n + 1 - (intOf iv).toNat)
        case atStart => exact ⟨0, 0, us, Nat.zero_le _, Nat.zero_le _, rfl, rfl, Lib.hid (SubI.start hL.out V j n gq), hS⟩
        case round =>
          clear hS
          obtain ⟨i, c, us', hi, hc, rfl, rfl, hI, hSi⟩ := hrel
          rename World => wi
          have hN' : Hid (us'.length = N) := Lib.hid (by rw [hI.out.win.len]; exact hN.out)
          by_cases hin : i ≤ n
          · have hini : (i : Int) ≤ (n : Int) := by omega
            obtain ⟨u, hu⟩ : ∃ u, Hid (us'.getD (j + i) 0 = u) := ⟨_, Lib.hid rfl⟩
            obtain ⟨gg, hga, hgl, fo⟩ := hSi.out.own.natD hN' (k := j + i) (by omega)
            cases hga
            obtain ⟨c1, c2, c3⟩ := fo (j + i) (by omega)
            rw [hu.out] at c1
            have hul : u < 1000000000 := by rw [← hu.out]; exact hI.out.win.lim.getD _
            have hib : (i : Int) < (n : Int) + 1 := by omega
            by_cases hlt : i < n
            · have hlti : (i : Int) < (n : Int) := by omega
              obtain ⟨_, _, hbb, f⟩ := sv.natD hV (k := i) hlt
              cases hbb
              have d2 := (f i hlt wi hSi.out.inv.fz).2
              obtain ⟨y, hy⟩ : ∃ y, Hid (V.getD i 0 = y) := ⟨_, Lib.hid rfl⟩
              have hyl : y < 1000000000 := by rw [← hy.out]; exact hLV.out.getD _
              rw [hy.out] at d2
              obtain ⟨p, hp⟩ : ∃ p, p = gq * y := ⟨_, rfl⟩
              have hpl : p ≤ 999999999 * 999999999 := by rw [hp]; exact Nat.mul_le_mul (by omega) (by omega)
              have hpi : ((gq : Nat) : Int) * (y : Int) = (p : Int) := by rw [hp]; exact (Int.natCast_mul gq y).symm
              obtain ⟨S, hS0⟩ : ∃ S, S = c + p := ⟨_, rfl⟩
              have hSe : Hid (S = c + gq * V.getD i 0) := Lib.hid (by rw [hy.out, hS0, hp])
              have hSl : S ≤ 999999998000000001 + 1000000000 := by omega
              clear hp f
              by_cases hlo : u < S % 1000000000
              · have hloi : (u : Int) < ((c : Int) + (p : Int)) % 1000000000 := by omega
                obtain ⟨t2, ht2⟩ : ∃ t, t = u + 1000000000 := ⟨_, rfl⟩
                have ht2e : (t2 : Int) = (u : Int) + 1000000000 := by omega
                have ht2l : t2 < 2000000000 := by omega
                have s1 := c3 t2 w0 φ hSi.out.inv
                rw [ht2e] at s1
                replace s1 := Lib.hid s1
                obtain ⟨_, hga2, _, fo2⟩ := s1.out.1.natD (n := N) (Lib.hid (by rw [List.length_set]; exact hN'.out)) (k := j + i) (by omega)
                cases hga2
                obtain ⟨k1, k2, k3⟩ := fo2 (j + i) (by omega)
                rw [getD_set_eq _ _ _ (by rw [hN'.out]; omega), ht2e] at k1
                obtain ⟨r, hr⟩ : ∃ r, r = t2 - S % 1000000000 := ⟨_, rfl⟩
                have hrl : r < 1000000000 := by omega
                have hrr : Hid (t2 - (c + p) % 1000000000 = r) := Lib.hid (by rw [hr, hS0])
                have hri : Hid ((u : Int) + 1000000000 - ((c : Int) + (p : Int)) % 1000000000 = (r : Int)) := Lib.hid (by omega)
                replace ht2e := Lib.hid ht2e
                have s2 := k3 r w0 φ s1.out.2
                rw [List.set_set] at s2
                have HS2 := Lib.hid s2
                have hnx := Lib.hid (hI.out.next (s := S) (e := 1) (q := r) (by rw [hN.out]; exact hj) hin hu.out hSe.out (by show r + S = u + (S / 1000000000 + 1) * 1000000000; omega) (by show r < 1000000000; omega))
                have hbi : Hid (((c : Int) + (p : Int)) / 1000000000 + 1 = ((S / lb + 1 : Nat) : Int)) := Lib.hid (by show _ = ((S / 1000000000 + 1 : Nat) : Int); omega)
                have hbl : S / lb + 1 ≤ 1000000000 := by show S / 1000000000 + 1 ≤ _; omega
                clear fo fo2 c3 k3 s2
                go_wp2
                try rw [hri.out]
                rw [hbi.out]
                try rw [hrr.out]
                go_roundw
                case rel => exact ⟨i + 1, S / lb + 1, us'.set (j + i) r, by omega, hbl, rfl, by go_num, hnx, Lib.hid ⟨HS2.out.2, HS2.out.1⟩⟩
                case measure => (simp [intOf] <;> omega)
              · have hloi : ¬ (u : Int) < ((c : Int) + (p : Int)) % 1000000000 := by omega
                obtain ⟨r, hr⟩ : ∃ r, r = u - S % 1000000000 := ⟨_, rfl⟩
                have hrl : r < 1000000000 := by omega
                have hrr : Hid (u - (c + p) % 1000000000 = r) := Lib.hid (by rw [hr, hS0])
                have hri : (u : Int) - ((c : Int) + (p : Int)) % 1000000000 = (r : Int) := by omega
                have HS2 := Lib.hid (c3 r w0 φ hSi.out.inv)
                have hnx := Lib.hid (hI.out.next (s := S) (e := 0) (q := r) (by rw [hN.out]; exact hj) hin hu.out hSe.out (by show r + S = u + (S / 1000000000 + 0) * 1000000000; omega) (by show r < 1000000000; omega))
                have hbi : Hid (((c : Int) + (p : Int)) / 1000000000 = ((S / lb + 0 : Nat) : Int)) := Lib.hid (by show _ = ((S / 1000000000 + 0 : Nat) : Int); omega)
                have hbl : S / lb + 0 ≤ 1000000000 := by show S / 1000000000 + 0 ≤ _; omega
                clear fo c3
                go_wp2
                rw [hbi.out]
                try rw [hrr.out]
                go_roundw
                case rel => exact ⟨i + 1, S / lb + 0, us'.set (j + i) r, by omega, hbl, rfl, by go_num, hnx, Lib.hid ⟨HS2.out.2, HS2.out.1⟩⟩
                case measure => (simp [intOf] <;> omega)
            · have hlti : ¬ (i : Int) < (n : Int) := by omega
              obtain ⟨S, hS0⟩ : ∃ S, S = c := ⟨_, rfl⟩
              have hSe : Hid (S = c + gq * V.getD i 0) := Lib.hid (by
                rw [List.getD_eq_getElem?_getD, List.getElem?_eq_none (by rw [hV.out]; omega), hS0]; rfl)
              have hSl : S ≤ 1000000000 := by omega
              by_cases hlo : u < S % 1000000000
              · have hloi : (u : Int) < (c : Int) % 1000000000 := by omega
                obtain ⟨t2, ht2⟩ : ∃ t, t = u + 1000000000 := ⟨_, rfl⟩
                have ht2e : (t2 : Int) = (u : Int) + 1000000000 := by omega
                have ht2l : t2 < 2000000000 := by omega
                have s1 := c3 t2 w0 φ hSi.out.inv
                rw [ht2e] at s1
                replace s1 := Lib.hid s1
                obtain ⟨_, hga2, _, fo2⟩ := s1.out.1.natD (n := N) (Lib.hid (by rw [List.length_set]; exact hN'.out)) (k := j + i) (by omega)
                cases hga2
                obtain ⟨k1, k2, k3⟩ := fo2 (j + i) (by omega)
                rw [getD_set_eq _ _ _ (by rw [hN'.out]; omega), ht2e] at k1
                obtain ⟨r, hr⟩ : ∃ r, r = t2 - S % 1000000000 := ⟨_, rfl⟩
                have hrl : r < 1000000000 := by omega
                have hrr : Hid (t2 - c % 1000000000 = r) := Lib.hid (by rw [hr, hS0])
                have hri : Hid ((u : Int) + 1000000000 - (c : Int) % 1000000000 = (r : Int)) := Lib.hid (by omega)
                replace ht2e := Lib.hid ht2e
                have s2 := k3 r w0 φ s1.out.2
                rw [List.set_set] at s2
                have HS2 := Lib.hid s2
                have hnx := Lib.hid (hI.out.next (s := S) (e := 1) (q := r) (by rw [hN.out]; exact hj) hin hu.out hSe.out (by show r + S = u + (S / 1000000000 + 1) * 1000000000; omega) (by show r < 1000000000; omega))
                have hbi : Hid ((c : Int) / 1000000000 + 1 = ((S / lb + 1 : Nat) : Int)) := Lib.hid (by show _ = ((S / 1000000000 + 1 : Nat) : Int); omega)
                have hbl : S / lb + 1 ≤ 1000000000 := by show S / 1000000000 + 1 ≤ _; omega
                clear fo fo2 c3 k3 s2
                go_wp2
                try rw [hri.out]
                rw [hbi.out]
                try rw [hrr.out]
                go_roundw
                case rel => exact ⟨i + 1, S / lb + 1, us'.set (j + i) r, by omega, hbl, rfl, by go_num, hnx, Lib.hid ⟨HS2.out.2, HS2.out.1⟩⟩
                case measure => (simp [intOf] <;> omega)
              · have hloi : ¬ (u : Int) < (c : Int) % 1000000000 := by omega
                obtain ⟨r, hr⟩ : ∃ r, r = u - S % 1000000000 := ⟨_, rfl⟩
                have hrl : r < 1000000000 := by omega
                have hrr : Hid (u - c % 1000000000 = r) := Lib.hid (by rw [hr, hS0])
                have hri : (u : Int) - (c : Int) % 1000000000 = (r : Int) := by omega
                have HS2 := Lib.hid (c3 r w0 φ hSi.out.inv)
                have hnx := Lib.hid (hI.out.next (s := S) (e := 0) (q := r) (by rw [hN.out]; exact hj) hin hu.out hSe.out (by show r + S = u + (S / 1000000000 + 0) * 1000000000; omega) (by show r < 1000000000; omega))
                have hbi : Hid ((c : Int) / 1000000000 = ((S / lb + 0 : Nat) : Int)) := Lib.hid (by show _ = ((S / 1000000000 + 0 : Nat) : Int); omega)
                have hbl : S / lb + 0 ≤ 1000000000 := by show S / 1000000000 + 0 ≤ _; omega
                clear fo c3
                go_wp2
                rw [hbi.out]
                try rw [hrr.out]
                go_roundw
                case rel => exact ⟨i + 1, S / lb + 0, us'.set (j + i) r, by omega, hbl, rfl, by go_num, hnx, Lib.hid ⟨HS2.out.2, HS2.out.1⟩⟩
                case measure => (simp [intOf] <;> omega)
          · obtain rfl : i = n + 1 := by omega
            have hini : ¬ ((n : Int) + 1) ≤ (n : Int) := by omega
            have hini2 : ¬ (((n + 1 : Nat) : Int)) ≤ (n : Int) := by omega
            have hE := hI.out.eq
            rw [List.take_of_length_le (l := V) (by rw [hV.out]; omega), hv.out, hU.out] at hE
            have hEnd := sub_end hvp.out hvM.out hE (win_lt hI.out.win.lim (by rw [hI.out.win.len, hN.out]; exact hj)) (by rw [hq.out]; exact hgq.out.1) (by rw [hq.out]; exact hg1.out)
            rw [hq.out] at hEnd
            replace hEnd := Lib.hid hEnd
            clear hE
            by_cases hc0 : c = 0
            · have he := Lib.hid (hEnd.out.1 hc0)
              have hgr : Hid (((gq : Nat) : Int) = ((U / v : Nat) : Int)) := Lib.hid (by rw [hq.out, he.out.1])
              subst hc0
              go_wp2
              go_ret
              refine ⟨us', ?_, hI.out.win, he.out.2, hSi.out⟩
              exact congrArg (fun z => Ending.returned (.int .u64 z)) hgr.out
            · obtain rfl : c = 1 := (hEnd.out.2 hc0).2.1
              have he := Lib.hid (hEnd.out.2 hc0)
              exact absurd he.out.1 (by have := HZ.out; omega)
end Go.Proofs.YtnlhalnjbkpdnaaGreatDoor
