/- The walk of times. Conditions: none beyond what the claim form gives. -/
import Derived.Test.YtafcecgcmaoakaaDoorN3
namespace Go.Proofs.YtafcecgcmaoakaaDoor
open Go.RowKit
set_option linter.unusedVariables false
theorem LV_zeros : ∀ n, LV (List.replicate n 0) = 0
  | 0 => rfl
  | n + 1 => by rw [List.replicate_succ, LV, LV_zeros n, Nat.mul_zero]
def NatPost (m : Nat) (φ : Phi) (w : World) (e : Ending) (w' : World) : Prop :=
  ∃ a cap φ', e = .returned (.slice a (limbs m).length cap) ∧ Inv w.heap.size w φ φ' w' ∧ SlV φ' a cap (limbs m)
/-- Where a row's carry can still stand. -/
theorem carry_bd {L c i j nb V A x B : Nat} (h1 : L + c * lb ^ (i + j) = V + x * B * lb ^ i) (hV : V = A * B) (hA : A < lb ^ i) (hB : B < lb ^ nb) (hx : x < lb) (hc : 0 < c) : j ≤ nb := by
  rcases Nat.lt_or_ge nb j with h | h
  · exfalso
    have e1 : lb ^ (i + nb + 1) ≤ lb ^ (i + j) := Nat.pow_le_pow_right lb_pos (by omega)
    have e2 : 1 * lb ^ (i + j) ≤ c * lb ^ (i + j) := Nat.mul_le_mul_right _ hc
    have e3 : V + x * B * lb ^ i = (A + x * lb ^ i) * B := by rw [hV]; grind
    have e4 : A + x * lb ^ i < lb ^ i * lb := by
      have h5 : (x + 1) * lb ^ i ≤ lb * lb ^ i := Nat.mul_le_mul_right _ hx
      rw [Nat.mul_comm (lb ^ i) lb]
      rw [Nat.add_mul, Nat.one_mul] at h5
      omega
    have e5 : (A + x * lb ^ i) * B < (lb ^ i * lb) * lb ^ nb := Nat.mul_lt_mul'' e4 hB
    have e6 : (lb ^ i * lb) * lb ^ nb = lb ^ (i + nb + 1) := by rw [Nat.pow_succ, Nat.pow_add]; grind
    omega
  · exact h
set_option maxRecDepth 100000 in
set_option maxHeartbeats 4000000 in
theorem times_any {m n na nb : Nat} {a b : Option Addr} {ca cb : Nat} {w : World} {φ : Phi} (hφ : Fz φ w) (sa : SlV φ a ca (limbs m)) (sb : SlV φ b cb (limbs n)) (hna : Hid ((limbs m).length = na)) (hnb : Hid ((limbs n).length = nb)) (h4a : na ≤ 2000000000) (h4b : nb ≤ 2000000000) :
    Calls Tryd.prog 150 #[.slice a na ca, .slice b nb cb] w (NatPost (m * n) φ w) := by
  have hI := Lib.hid (Inv.start hφ)
  have hsum : Hid ((na : Int) + (nb : Int) = ((na + nb : Nat) : Int)) := Lib.hid (by omega)
  go_enter Tryd.func150, Tryd.ntmps150
  go_wp2_with (at_make; (refine wpList_mkn (α := Nat) rfl _ _ 115 rfl slNat hI.out _ _ (na + nb) 0 (fun _ => rfl) rfl rfl rfl (by omega) ?_; intro w1 hi1 ho1 hg1))
  have hS0 : Hid (OwSt w φ 117 (some ⟨w.heap.size, 0, none⟩) (na + nb) (List.replicate (na + nb) 0) w1) := Lib.hid ⟨hi1, ho1⟩
  have hLa : Hid (Lim (limbs m)) := Lib.hid (limbs_lim m)
  have hLb : Hid (Lim (limbs n)) := Lib.hid (limbs_lim n)
  have hma : Hid (LV (limbs m) = m) := Lib.hid (LV_limbs m)
  have hmb : Hid (LV (limbs n) = n) := Lib.hid (LV_limbs n)
  have hbL : Hid (n < lb ^ nb) := Lib.hid (by rw [← hnb.out]; exact limbs_lt n)
  generalize limbs m = A at *
  generalize limbs n = B at *
  obtain ⟨N, hN⟩ : ∃ N, Hid (na + nb = N) := ⟨_, Lib.hid rfl⟩
  have hN4 : N ≤ 4000000000 := by rw [← hN.out]; omega
  rw [hN.out] at hS0 ⊢
  clear hi1 ho1 hg1
  go_loopw [19] (fun v wr => ∃ (i : Nat) (os : List Nat), i ≤ na ∧ v = .int .i64 (i : Int) ∧ Hid (os.length = N) ∧ Hid (Lim os) ∧ Hid (LV os = LV (A.take i) * n) ∧ Hid (OwSt w φ 117 (some ⟨w.heap.size, 0, none⟩) N os wr)) (fun v _ => na - (intOf v).toNat)
  case atStart => exact ⟨0, List.replicate N 0, Nat.zero_le _, rfl, Lib.hid (by simp), Lib.hid (Lim.zeros N), Lib.hid (by rw [List.take_zero, LV, Nat.zero_mul, LV_zeros]), hS0⟩
  case round =>
    clear hS0
    obtain ⟨i, os, hi, rfl, hol, hoL, hov, hS⟩ := hrel
    by_cases hlt : i < na
    · obtain ⟨ba, oa, rfl, f⟩ := sa.natD hna hlt
      obtain ⟨_, d1⟩ := f i hlt wr hS.out.inv.fz
      obtain ⟨x, hx⟩ : ∃ x, Hid (A.getD i 0 = x) := ⟨_, Lib.hid rfl⟩
      have hxl : x < 1000000000 := by rw [← hx.out]; exact hLa.out.getD _
      rw [hx.out] at d1
      have htk : Hid (LV (A.take (i + 1)) = LV (A.take i) + lb ^ i * x) := Lib.hid (by rw [LV_take, hx.out])
      have hAi : Hid (LV (A.take i) < lb ^ i) := Lib.hid (by have := LV_lt (hLa.out.take i); rwa [List.length_take, Nat.min_eq_left (by rw [hna.out]; omega)] at this)
      clear f
      go_wp2
      clear d1
      go_loopw [8, 9] (fun cv kv wi => ∃ (c k : Nat) (os' : List Nat), k ≤ nb + 1 ∧ c < 1000000000 ∧ (k = nb + 1 → c = 0) ∧ cv = .int .u64 (c : Int) ∧ kv = .int .i64 (k : Int) ∧ Hid (os'.length = N) ∧ Hid (Lim os') ∧ Hid (LV os' + c * (lb ^ i * lb ^ k) = LV os + x * LV (B.take k) * lb ^ i) ∧ Hid (OwSt w φ 117 (some ⟨w.heap.size, 0, none⟩) N os' wi)) (fun _ kv _ => nb + 1 - (intOf kv).toNat)
      case atStart => exact ⟨0, 0, os, by omega, by omega, fun h => by omega, rfl, rfl, hol, hoL, Lib.hid (by simp [LV]), hS⟩
      case round =>
        clear hS
        obtain ⟨c, k, os', hk, hc, hkc, rfl, rfl, hol', hoL', hinv, hSi⟩ := hrel
        rename World => wi
        by_cases hend : ¬ k < nb ∧ c = 0
        · obtain ⟨hkn, rfl⟩ := hend
          have hkn2 : ¬ (k : Int) < (nb : Int) := by omega
          have hout : Hid (LV os' = LV (A.take (i + 1)) * n) := Lib.hid (by
            have h := hinv.out
            rw [Nat.zero_mul, Nat.add_zero, List.take_of_length_le (by rw [hnb.out]; omega), hmb.out, hov.out] at h
            rw [h, htk.out]; grind)
          go_wp2
          go_roundw
          case rel => exact ⟨i + 1, os', by omega, by go_num, hol', hoL', hout, hSi⟩
          case measure => (simp [intOf] <;> omega)
        · have hki : k ≤ nb := by
            rcases Nat.lt_or_ge k nb with q | q
            · omega
            · have hc0 : 0 < c := by omega
              have h := hinv.out
              rw [List.take_of_length_le (by rw [hnb.out]; omega), hmb.out, ← Nat.pow_add] at h
              exact carry_bd h hov.out hAi.out hbL.out hxl hc0
          have hin : i + k < N := by
            rcases Nat.lt_or_ge k nb with q | q
            · rw [← hN.out]; omega
            · rw [← hN.out]; omega
          obtain ⟨g, hga, hgl, fo⟩ := hSi.out.own.natD hol' hin
          cases hga
          obtain ⟨e1, e2, e3⟩ := fo (i + k) hin
          obtain ⟨o, ho⟩ : ∃ o, Hid (os'.getD (i + k) 0 = o) := ⟨_, Lib.hid rfl⟩
          have hoo : o < 1000000000 := by rw [← ho.out]; exact hoL'.out.getD _
          rw [ho.out] at e1
          have hset := Lib.hid (fun q => LV_set os' q (k := i + k) (by rw [hol'.out]; exact hin))
          rw [ho.out, Nat.pow_add] at hset
          have E3 := Lib.hid e3
          have hw1 : IntKind.i64.wrap ((i : Int) + (k : Int)) = ((i + k : Nat) : Int) := by rw [IntWalk.i64_in _ (by omega)]; omega
          have hii : (i : Int) + (k : Int) = ((i + k : Nat) : Int) := by omega
          have hto : ((i : Int) + (k : Int)).toNat = i + k := by omega
          have hb1 : (i : Int) + (k : Int) < (N : Int) := by omega
          have hb0 : (0 : Int) ≤ (i : Int) + (k : Int) := by omega
          clear e3 fo hw1 hii
          by_cases hkn : k < nb
          · obtain ⟨bb, ob, rfl, f2⟩ := sb.natD hnb hkn
            obtain ⟨_, d2⟩ := f2 k hkn wi hSi.out.inv.fz
            obtain ⟨y, hy⟩ : ∃ y, Hid (B.getD k 0 = y) := ⟨_, Lib.hid rfl⟩
            have hyl : y < 1000000000 := by rw [← hy.out]; exact hLb.out.getD _
            rw [hy.out] at d2
            obtain ⟨p, hp⟩ : ∃ p, p = x * y := ⟨_, rfl⟩
            have hpl : p ≤ 999999999 * 999999999 := by rw [hp]; exact Nat.mul_le_mul (by omega) (by omega)
            have hpi : (x : Int) * (y : Int) = (p : Int) := by rw [hp]; exact (Int.natCast_mul x y).symm
            obtain ⟨S, hSe⟩ : ∃ S, Hid (S = o + c + p) := ⟨_, Lib.hid rfl⟩
            have hSl : o + c + p < 1000000000 * 1000000000 := by omega
            have hSm : Hid (((o : Int) + (c : Int) + (p : Int)) % 1000000000 = ((S % lb : Nat) : Int)) := Lib.hid (by rw [hSe.out]; exact (Int.natCast_emod (o + c + p) lb).symm ▸ rfl)
            have hSd : Hid (((o : Int) + (c : Int) + (p : Int)) / 1000000000 = ((S / lb : Nat) : Int)) := Lib.hid (by rw [hSe.out]; exact (Int.natCast_ediv (o + c + p) lb).symm ▸ rfl)
            have hc9 : S / lb < 1000000000 := (Nat.div_lt_iff_lt_mul lb_pos).2 (by rw [hSe.out]; exact hSl)
            have hq9 : S % lb < lb := Nat.mod_lt _ lb_pos
            have hnext : Hid (LV (os'.set (i + k) (S % lb)) + S / lb * (lb ^ i * lb ^ (k + 1)) = LV os + x * LV (B.take (k + 1)) * lb ^ i) := Lib.hid (by
              have h5 := mul_step (K := lb ^ k) (Q := lb ^ i) (T := LV (B.take k)) (b := y) (s := S) (c' := S / lb) (q := S % lb) (o := o) (by rw [hinv.out]) (hset.out (S % lb)) (by rw [Nat.div_add_mod]) (by rw [hSe.out, hp])
              have h6 : lb ^ i * lb ^ (k + 1) = lb ^ i * lb ^ k * lb := by rw [Nat.pow_succ, Nat.mul_assoc]
              rw [LV_take, hy.out, h6]
              exact h5)
            have hst := Lib.hid (E3.out (S % lb) w φ hSi.out.inv)
            have hki2 : (k : Int) < (nb : Int) := by omega
            clear hp f2
            go_wp2
            rw [hSm.out, hSd.out]
            go_roundw
            case rel => exact ⟨S / lb, k + 1, os'.set (i + k) (S % lb), by omega, hc9, fun h => by omega, rfl, by go_num, Lib.hid (by rw [List.length_set]; exact hol'.out), Lib.hid (hoL'.out.set hq9), hnext, Lib.hid ⟨hst.out.2, hst.out.1⟩⟩
            case measure => (simp [intOf] <;> omega)
          · have hkn2 : ¬ (k : Int) < (nb : Int) := by omega
            have hc0 : 0 < c := by omega
            have hc0i : (0 : Int) < (c : Int) := by omega
            obtain ⟨S, hSe⟩ : ∃ S, Hid (S = o + c) := ⟨_, Lib.hid rfl⟩
            have hSl : o + c < 1000000000 * 1000000000 := by omega
            have hSm : Hid (((o : Int) + (c : Int)) % 1000000000 = ((S % lb : Nat) : Int)) := Lib.hid (by rw [hSe.out]; exact (Int.natCast_emod (o + c) lb).symm ▸ rfl)
            have hSd : Hid (((o : Int) + (c : Int)) / 1000000000 = ((S / lb : Nat) : Int)) := Lib.hid (by rw [hSe.out]; exact (Int.natCast_ediv (o + c) lb).symm ▸ rfl)
            have hc9 : S / lb < 1000000000 := (Nat.div_lt_iff_lt_mul lb_pos).2 (by rw [hSe.out]; exact hSl)
            have hq9 : S % lb < lb := Nat.mod_lt _ lb_pos
            have hB0 : Hid (LV (B.take (k + 1)) = LV (B.take k)) := Lib.hid (by rw [List.take_of_length_le (by rw [hnb.out]; omega), List.take_of_length_le (by rw [hnb.out]; omega)])
            have hnext : Hid (LV (os'.set (i + k) (S % lb)) + S / lb * (lb ^ i * lb ^ (k + 1)) = LV os + x * LV (B.take (k + 1)) * lb ^ i) := Lib.hid (by
              have h5 := mul_step (K := lb ^ k) (Q := lb ^ i) (T := LV (B.take k)) (b := 0) (s := S) (c' := S / lb) (q := S % lb) (o := o) (by rw [hinv.out]) (hset.out (S % lb)) (by rw [Nat.div_add_mod]) (by rw [hSe.out, Nat.mul_zero, Nat.add_zero])
              have h6 : lb ^ i * lb ^ (k + 1) = lb ^ i * lb ^ k * lb := by rw [Nat.pow_succ, Nat.mul_assoc]
              rw [hB0.out, h6]
              rw [Nat.mul_zero, Nat.add_zero] at h5
              exact h5)
            have hst := Lib.hid (E3.out (S % lb) w φ hSi.out.inv)
            have hz9 : Hid (S / lb = 0) := Lib.hid (by
              rcases Nat.eq_zero_or_pos (S / lb) with q | q
              · exact q
              · have h := hnext.out
                rw [List.take_of_length_le (by rw [hnb.out]; omega), hmb.out, ← Nat.pow_add] at h
                have := carry_bd h hov.out hAi.out hbL.out hxl q
                omega)
            clear hset E3
            go_wp2
            rw [hSm.out, hSd.out]
            go_roundw
            case rel => exact ⟨S / lb, k + 1, os'.set (i + k) (S % lb), by omega, hc9, fun _ => hz9.out, rfl, by go_num, Lib.hid (by rw [List.length_set]; exact hol'.out), Lib.hid (hoL'.out.set hq9), hnext, Lib.hid ⟨hst.out.2, hst.out.1⟩⟩
            case measure => (simp [intOf] <;> omega)
    · obtain rfl : na = i := by omega
      have hfin : Hid (LV os = m * n) := Lib.hid (by rw [hov.out, List.take_of_length_le (by rw [hna.out]; exact Nat.le_refl _), hma.out])
      obtain ⟨φ', _, hi', hs, _⟩ := hS.out.own.release hS.out.inv
      have HS' := Lib.hid hs
      have HI' := Lib.hid hi'
      clear hi' hs
      obtain ⟨q, hq⟩ : ∃ q, Hid ((limbs (LV os)).length = q) := ⟨_, Lib.hid rfl⟩
      go_wp2_with (go_at_call 152; refine (trim_any HI'.out.fz HS'.out hol (by omega) hoL hq).mono ?_; rintro e w' ⟨rfl, rfl⟩)
      go_ret
      refine ⟨some ⟨w.heap.size, 0, none⟩, N, φ', ?_, HI'.out, HS'.out.trim hoL.out hfin.out⟩
      rw [← hfin.out, hq.out]; rfl
end Go.Proofs.YtafcecgcmaoakaaDoor
