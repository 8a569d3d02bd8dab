/- The program's natural numbers: the walks of padded and digits. Conditions: the library's table of powers of ten reads as it was laid. -/
import Derived.Test.YtafcecgcmaoakaaDoorP2
import Derived.Test.YtafcecgcmaoakaaDoorA5
namespace Go.Proofs.YtafcecgcmaoakaaDoor
open Go.RowKit
set_option linter.unusedVariables false
set_option maxHeartbeats 1000000 in
theorem padded_any {x : Nat} (hx : x < 1000000000) {w : World} {φ : Phi} (hφ : Fz φ w) (hp : PowP φ) {t : ByteArray} (ht : Hid (bl (padR 9 x) = t)) :
    Calls Tryd.prog 138 #[.int .i64 (x : Int), .int .i64 9] w (fun e w' => e = .returned (.string t) ∧ Below w.heap.size w w') := by
  have hd9 := dec_lim hx
  have hd1 := dec_pos x
  obtain ⟨ds, hds⟩ : ∃ ds, Hid (Lib.decDigits x = ds) := ⟨_, Lib.hid rfl⟩
  have hit : Hid (itoaB (x : Int) = bl ds) := Lib.hid (by rw [itoa_nat, hds.out])
  have hpe : Hid (t = bl (List.replicate (9 - ds.length) 48 ++ ds)) := Lib.hid (by rw [← ht.out, pad_eq 8 x (by omega), hds.out])
  rw [hds.out] at hd9 hd1
  clear ht
  go_enter Tryd.func138, Tryd.ntmps138
  go_wp2_with (go_at_call 83; refine (Itoa_any (x : Int) (by omega) (by omega) _ φ hφ hp).mono ?_; rintro e w1 ⟨rfl, hb1⟩; rw [hit.out]; have HB := Lib.hid hb1; clear hb1)
  go_loopw [5] (fun s wr => ∃ j : Nat, j + ds.length ≤ 9 ∧ s = .string (bl (List.replicate j 48 ++ ds)) ∧ Hid (Below w.heap.size w wr)) (fun s _ => 9 - Lib.strSize s)
  case atStart => exact ⟨0, by omega, rfl, HB⟩
  case round =>
    obtain ⟨j, hj, rfl, hB⟩ := hrel
    have hsz : Hid ((bl (List.replicate j 48 ++ ds)).size = j + ds.length) := Lib.hid (by rw [bl_size, List.length_append, List.length_replicate])
    have hnx : Hid ((⟨#[48]⟩ : ByteArray) ++ bl (List.replicate j 48 ++ ds) = bl (List.replicate (j + 1) 48 ++ ds)) := Lib.hid (by
      rw [show (⟨#[48]⟩ : ByteArray) = bl [48] from rfl, bl_app, List.replicate_succ]; rfl)
    have hs2 : Hid ((bl (List.replicate (j + 1) 48 ++ ds)).size = j + 1 + ds.length) := Lib.hid (by rw [bl_size, List.length_append, List.length_replicate])
    obtain ⟨u, hu⟩ : ∃ u, Hid (bl (List.replicate j 48 ++ ds) = u) := ⟨_, Lib.hid rfl⟩
    rw [hu.out] at hsz hnx ⊢
    have hsz' := hsz.out
    by_cases hlt : j + ds.length < 9
    · have hs : (u.size : Int) < 9 := by omega
      have hg : ¬ 9223372036854775807 < 1 + u.size := by omega
      clear hsz'
      go_wp2
      rw [hnx.out]
      go_roundw
      case rel => exact ⟨j + 1, by omega, rfl, hB⟩
      case measure =>
        show 9 - (bl _).size < 9 - u.size
        rw [hs2.out, hsz.out]; omega
    · have hs : ¬ (u.size : Int) < 9 := by omega
      clear hsz'
      go_wp2
      go_ret
      refine ⟨?_, hB.out⟩
      have hj9 : 9 - ds.length = j := by omega
      rw [hpe.out, hj9, hu.out]; rfl
set_option maxRecDepth 100000 in
set_option maxHeartbeats 1000000 in
theorem digits_any {m k : Nat} {a : Option Addr} {c : Nat} {w : World} {φ : Phi} (hφ : Fz φ w) (hp : PowP φ) (s : SlV φ a c (limbs m)) (hk : Hid ((limbs m).length = k)) (hk9 : k ≤ 1000000000) {t : ByteArray} (ht : Hid (decB m = t)) :
    Calls Tryd.prog 111 #[.slice a k c] w (fun e w' => e = .returned (.string t) ∧ Below w.heap.size w w') := by
  go_enter Tryd.func111, Tryd.ntmps111
  by_cases h0 : k = 0
  · subst h0
    have hm : m = 0 := limbs_len0.1 hk.out
    subst hm
    go_wp2
    go_ret
    exact ⟨by rw [← ht.out, decB, dec_lt (by omega)]; rfl, Below.refl _ _⟩
  · have hk0 : ((k : Int) == 0) = false := by simp [h0]
    have hm0 : Hid (m ≠ 0) := Lib.hid (fun e => h0 (by rw [← hk.out, e, limbs_zero]; rfl))
    have hLm : Hid (Lim (limbs m)) := Lib.hid (limbs_lim m)
    have hS0 : Hid (TxSt w φ w.heap.size ⟨#[]⟩ (w.alloc (.cells #[.pointer none, .slice none 0 0] 127))) := Lib.hid (TxSt.start (Inv.start hφ))
    have hfin : Hid (bl ((cat9 (limbs m)).dropWhile (· == 48)) = t) := Lib.hid (by rw [cat9_trim hm0.out, ← ht.out]; rfl)
    have HP := Lib.hid hp
    generalize limbs m = X at *
    obtain ⟨bb, hbb⟩ : ∃ b, Hid (w.heap.size = b) := ⟨_, Lib.hid rfl⟩
    rw [hbb.out] at hS0
    clear h0 hφ hp
    go_wp2
    rw [hbb.out]
    go_loopw [4] (fun v wr => ∃ (j : Nat) (u : ByteArray), j ≤ k ∧ v = .int .i64 ((j : Int) - 1) ∧ Hid (bl (cat9 (X.drop j)) = u) ∧ Hid (TxSt w φ bb u wr)) (fun v _ => (intOf v + 1).toNat)
    case atStart => exact ⟨k, ⟨#[]⟩, Nat.le_refl _, rfl, Lib.hid (by rw [List.drop_of_length_le (by rw [hk.out]; exact Nat.le_refl _)]; rfl), hS0⟩
    case round =>
      clear hS0
      obtain ⟨j, u, hj, rfl, hu, hS⟩ := hrel
      have hul : u.size = 9 * (k - j) := by rw [← hu.out, bl_size, cat9_len, List.length_drop, hk.out]
      by_cases hj0 : j = 0
      · subst hj0
        have hneg : ¬ (0 : Int) ≤ ((0 : Nat) : Int) - 1 := by omega
        have hu2 : Hid (Lib.trimLeftB u.data.toList 48 = (cat9 X).dropWhile (· == 48)) := Lib.hid (by rw [← hu.out, bl_list, List.drop_zero]; rfl)
        go_wp2_with (first
          | (go_at_call 85; refine (String_any hS.out).mono ?_; rintro e w2 ⟨rfl, hT⟩; have HT := Lib.hid hT; clear hT)
          | (go_at_call 139; refine (Tryd.strings_TrimLeft_one u 48 (by decide) _).mono ?_; rintro e w3 ⟨rfl, rfl⟩; rw [hu2.out]))
        go_ret
        exact ⟨by rw [← hfin.out]; rfl, HT.out.inv.bel⟩
      · obtain ⟨b, off, rfl, f⟩ := s.natD hk (k := j - 1) (by omega)
        obtain ⟨_, d1⟩ := f (j - 1) (by omega) wr hS.out.inv.fz
        obtain ⟨x, hx⟩ : ∃ x, Hid (X.getD (j - 1) 0 = x) := ⟨_, Lib.hid rfl⟩
        have hxl : x < 1000000000 := by rw [← hx.out]; exact hLm.out.getD _
        rw [hx.out] at d1
        obtain ⟨v, hv⟩ : ∃ v, Hid (bl (padR 9 x) = v) := ⟨_, Lib.hid rfl⟩
        have hvl : v.size = 9 := by rw [← hv.out, bl_size, padR_len]
        have hnx : Hid (bl (cat9 (X.drop (j - 1))) = u ++ v) := Lib.hid (by
          rw [cat9_drop X (j - 1) (by rw [hk.out]; omega), show j - 1 + 1 = j by omega, ← bl_app, hu.out, hx.out, hv.out])
        have hpos : (0 : Int) ≤ (j : Int) - 1 := by omega
        have hbd : (j : Int) - 1 < k := by omega
        have hto : ((j : Int) - 1).toNat = j - 1 := by omega
        have hwr : IntKind.i64.wrap (x : Int) = (x : Int) := IntWalk.i64_in _ (by omega)
        clear f
        go_wp2_with (first
          | (go_at_call 138; refine (padded_any hxl hS.out.inv.fz HP.out hv).mono ?_; rintro e w2 ⟨rfl, hb2⟩; have HS2 := Lib.hid (hS.out.callB hb2); clear hb2)
          | (go_at_call 82; refine (WriteString_any HS2.out (by omega)).mono ?_; rintro e w3 ⟨rfl, hT3, _⟩; have HT3 := Lib.hid hT3; clear hT3))
        go_roundw
        case rel => exact ⟨j - 1, u ++ v, by omega, by go_num, hnx, HT3⟩
        case measure => simp [intOf]; omega
end Go.Proofs.YtafcecgcmaoakaaDoor
