/- The program's natural numbers: the walks of padded and digits. Conditions: the library's table of powers of ten reads as it was laid. The texts of a fraction in lowest terms; a box next to a result's cell. The program's ratios: the walks of ratio, RatioOf and fraction. Conditions: the library's table of powers of ten reads as it was laid. The program's ratios: the walks of RatioOf. Conditions: the library's table of powers of ten reads as it was laid. The program's ratios: the walks of fraction and share; the texts of small ratios. Conditions: the library's table of powers of ten reads as it was laid. The plain law of reading decimal digits. The program's reading of digits: the walks of isDigits and ofDigits. Conditions: none beyond what the claim form gives. -/
import Derived.Test.YtnlhalnjbkpdnaaGreatDoorPA
import Derived.Test.YtnlhalnjbkpdnaaGreatDoorBL
import Derived.Deep.RegionHeld3
import Derived.Lib.Atoi
import Derived.Test.YtnlhalnjbkpdnaaGreatDoorNA
namespace Go.Proofs.YtnlhalnjbkpdnaaGreatDoor
open Go.RowKit
set_option linter.unusedVariables false
set_option linter.unusedSimpArgs false
set_option maxHeartbeats 1000000 in
theorem padded_any {x : Nat} (hx : x < 1000000000) {w : World} {φ : Phi} (hφ : Fz φ w) (hp : PowP φ) {t : ByteArray} (ht : Hid (bl (padR 9 x) = t)) :
    Calls Tryz.prog 263 #[.int .i64 (x : Int), .int .i64 9] w (fun e w' => e = .returned (.string t) ∧ Below w.heap.size w w') := by
  have hd9 := dec_lim hx
  have hd1 := dec_pos x
  obtain ⟨ds, hds⟩ : ∃ ds, Hid (Lib.decDigits x = ds) := ⟨_, Lib.hid rfl⟩
  have hit : Hid (itoaB (x : Int) = bl ds) := Lib.hid (by rw [itoa_nat, hds.out])
  have hpe : Hid (t = bl (List.replicate (9 - ds.length) 48 ++ ds)) := Lib.hid (by rw [← ht.out, pad_eq 8 x (by omega), hds.out])
  rw [hds.out] at hd9 hd1
  clear ht
  go_enter Tryz.func263, Tryz.ntmps263
  go_wp2_with (go_at_call 112; refine (Itoa_any (x : Int) (by omega) (by omega) _ φ hφ hp).mono ?_; rintro e w1 ⟨rfl, hb1⟩; rw [hit.out]; have HB := Lib.hid hb1; clear hb1)
  go_loopw [5] (fun s wr => ∃ j : Nat, j + ds.length ≤ 9 ∧ s = .string (bl (List.replicate j 48 ++ ds)) ∧ Hid (Below w.heap.size w wr)) (fun s _ => 9 - Lib.strSize s)
  case atStart => exact ⟨0, by omega, rfl, HB⟩
  case round =>
    obtain ⟨j, hj, rfl, hB⟩ := hrel
    have hsz : Hid ((bl (List.replicate j 48 ++ ds)).size = j + ds.length) := Lib.hid (by rw [bl_size, List.length_append, List.length_replicate])
    have hnx : Hid ((⟨#[48]⟩ : ByteArray) ++ bl (List.replicate j 48 ++ ds) = bl (List.replicate (j + 1) 48 ++ ds)) := Lib.hid (by
      rw [show (⟨#[48]⟩ : ByteArray) = bl [48] from rfl, bl_app, List.replicate_succ]; rfl)
    have hs2 : Hid ((bl (List.replicate (j + 1) 48 ++ ds)).size = j + 1 + ds.length) := Lib.hid (by rw [bl_size, List.length_append, List.length_replicate])
    obtain ⟨u, hu⟩ : ∃ u, Hid (bl (List.replicate j 48 ++ ds) = u) := ⟨_, Lib.hid rfl⟩
    rw [hu.out] at hsz hnx ⊢
    have hsz' := hsz.out
    by_cases hlt : j + ds.length < 9
    · have hs : (u.size : Int) < 9 := by omega
      have hg : ¬ 9223372036854775807 < 1 + u.size := by omega
      clear hsz'
      go_wp2
      rw [hnx.out]
      go_roundw
      case rel => exact ⟨j + 1, by omega, rfl, hB⟩
      case measure =>
        show 9 - (bl _).size < 9 - u.size
        rw [hs2.out, hsz.out]; omega
    · have hs : ¬ (u.size : Int) < 9 := by omega
      clear hsz'
      go_wp2
      go_ret
      refine ⟨?_, hB.out⟩
      have hj9 : 9 - ds.length = j := by omega
      rw [hpe.out, hj9, hu.out]; rfl
set_option maxRecDepth 100000 in
set_option maxHeartbeats 1000000 in
theorem digits_any {m k : Nat} {a : Option Addr} {c : Nat} {w : World} {φ : Phi} (hφ : Fz φ w) (hp : PowP φ) (s : SlV φ a c (limbs m)) (hk : Hid ((limbs m).length = k)) (hk9 : k ≤ 1000000000) {t : ByteArray} (ht : Hid (decB m = t)) :
    Calls Tryz.prog 224 #[.slice a k c] w (fun e w' => e = .returned (.string t) ∧ Below w.heap.size w w') := by
  go_enter Tryz.func224, Tryz.ntmps224
  by_cases h0 : k = 0
  · subst h0
    have hm : m = 0 := limbs_len0.1 hk.out
    subst hm
    go_wp2
    go_ret
    exact ⟨by rw [← ht.out, decB, dec_lt (by omega)]; rfl, Below.refl _ _⟩
  · have hk0 : ((k : Int) == 0) = false := by simp [h0]
    have hm0 : Hid (m ≠ 0) := Lib.hid (fun e => h0 (by rw [← hk.out, e, limbs_zero]; rfl))
    have hLm : Hid (Lim (limbs m)) := Lib.hid (limbs_lim m)
    have hS0 : Hid (TxSt w φ w.heap.size ⟨#[]⟩ (w.alloc (.cells #[.pointer none, .slice none 0 0] 163))) := Lib.hid (TxSt.start (Inv.start hφ))
    have hfin : Hid (bl ((cat9 (limbs m)).dropWhile (· == 48)) = t) := Lib.hid (by rw [cat9_trim hm0.out, ← ht.out]; rfl)
    have HP := Lib.hid hp
    generalize limbs m = X at *
    obtain ⟨bb, hbb⟩ : ∃ b, Hid (w.heap.size = b) := ⟨_, Lib.hid rfl⟩
    rw [hbb.out] at hS0
    clear h0 hφ hp
    go_wp2
    rw [hbb.out]
    go_loopw [4] (fun v wr => ∃ (j : Nat) (u : ByteArray), j ≤ k ∧ v = .int .i64 ((j : Int) - 1) ∧ Hid (bl (cat9 (X.drop j)) = u) ∧ Hid (TxSt w φ bb u wr)) (fun v _ => (intOf v + 1).toNat)
    case atStart => exact ⟨k, ⟨#[]⟩, Nat.le_refl _, rfl, Lib.hid (by rw [List.drop_of_length_le (by rw [hk.out]; exact Nat.le_refl _)]; rfl), hS0⟩
    case round =>
      clear hS0
      obtain ⟨j, u, hj, rfl, hu, hS⟩ := hrel
      have hul : u.size = 9 * (k - j) := by rw [← hu.out, bl_size, cat9_len, List.length_drop, hk.out]
      by_cases hj0 : j = 0
      · subst hj0
        have hneg : ¬ (0 : Int) ≤ ((0 : Nat) : Int) - 1 := by omega
        have hu2 : Hid (Lib.trimLeftB u.data.toList 48 = (cat9 X).dropWhile (· == 48)) := Lib.hid (by rw [← hu.out, bl_list, List.drop_zero]; rfl)
        go_wp2_with (first
          | (go_at_call 121; refine (String_any hS.out).mono ?_; rintro e w2 ⟨rfl, hT⟩; have HT := Lib.hid hT; clear hT)
          | (go_at_call 264; refine (Tryz.strings_TrimLeft_one u 48 (by decide) _).mono ?_; rintro e w3 ⟨rfl, rfl⟩; rw [hu2.out]))
        go_ret
        exact ⟨by rw [← hfin.out]; rfl, HT.out.inv.bel⟩
      · obtain ⟨b, off, rfl, f⟩ := s.natD hk (k := j - 1) (by omega)
        obtain ⟨_, d1⟩ := f (j - 1) (by omega) wr hS.out.inv.fz
        obtain ⟨x, hx⟩ : ∃ x, Hid (X.getD (j - 1) 0 = x) := ⟨_, Lib.hid rfl⟩
        have hxl : x < 1000000000 := by rw [← hx.out]; exact hLm.out.getD _
        rw [hx.out] at d1
        obtain ⟨v, hv⟩ : ∃ v, Hid (bl (padR 9 x) = v) := ⟨_, Lib.hid rfl⟩
        have hvl : v.size = 9 := by rw [← hv.out, bl_size, padR_len]
        have hnx : Hid (bl (cat9 (X.drop (j - 1))) = u ++ v) := Lib.hid (by
          rw [cat9_drop X (j - 1) (by rw [hk.out]; omega), show j - 1 + 1 = j by omega, ← bl_app, hu.out, hx.out, hv.out])
        have hpos : (0 : Int) ≤ (j : Int) - 1 := by omega
        have hbd : (j : Int) - 1 < k := by omega
        have hto : ((j : Int) - 1).toNat = j - 1 := by omega
        have hwr : IntKind.i64.wrap (x : Int) = (x : Int) := IntWalk.i64_in _ (by omega)
        clear f
        go_wp2_with (first
          | (go_at_call 263; refine (padded_any hxl hS.out.inv.fz HP.out hv).mono ?_; rintro e w2 ⟨rfl, hb2⟩; have HS2 := Lib.hid (hS.out.callB hb2); clear hb2)
          | (go_at_call 119; refine (WriteString_any HS2.out (by omega)).mono ?_; rintro e w3 ⟨rfl, hT3, _⟩; have HT3 := Lib.hid hT3; clear hT3))
        go_roundw
        case rel => exact ⟨j - 1, u ++ v, by omega, by go_num, hnx, HT3⟩
        case measure => simp [intOf]; omega
end Go.Proofs.YtnlhalnjbkpdnaaGreatDoor

namespace Go.Proofs.YtnlhalnjbkpdnaaGreatDoor
open Go.RowKit
set_option linter.unusedVariables false
set_option linter.unusedSimpArgs false
/-- The texts of a fraction. -/
def ratN (ng : Bool) (s t : ByteArray) : ByteArray × ByteArray × Int := if s.size > 2000 ∨ t.size > 2000 then (⟨#[]⟩, ⟨#[]⟩, 2) else (if ng then ⟨#[45]⟩ ++ s else s, t, 0)
theorem ratR_eq {neg : Bool} {n d : Nat} (hd : 0 < d) : ratR (rat neg n d) = ratN (neg && decide (n / Nat.gcd n d ≠ 0)) (decB (n / Nat.gcd n d)) (decB (d / Nat.gcd n d)) := by
  have h0 : d ≠ 0 := by omega
  unfold ratR ratN
  rw [rat_numAbs h0, rat_den h0]
  congr 1
  congr 1
  have := rat_neg (neg := neg) (n := n) h0
  by_cases hc : (rat neg n d).num < 0
  · have h2 := this.1 hc
    rw [if_pos hc, if_pos (by rw [h2.1, Bool.true_and]; exact decide_eq_true h2.2)]
  · rw [if_neg hc, if_neg]
    intro e
    apply hc
    apply this.2
    rw [Bool.and_eq_true] at e
    exact ⟨e.1, of_decide_eq_true e.2⟩
/-- A box and a result's cell. -/
structure Fr2 (w0 : World) (φ0 φ : Phi) (b : Nat) (cs : Array Value) (T : TypeId) (g : Nat) (ds : Array Value) (E : TypeId) (W : World) : Prop where
  x : RsSt w0 φ0 φ b cs T W
  r : RsSt w0 φ0 φ g ds E W
theorem Fr2.callB {w0 W w' : World} {φ0 φ : Phi} {b g : Nat} {cs ds : Array Value} {T E : TypeId} (h : Fr2 w0 φ0 φ b cs T g ds E W) (hb : Below W.heap.size W w') : Fr2 w0 φ0 φ b cs T g ds E w' := ⟨h.x.callB hb, h.r.callB hb⟩
theorem decB_len {m k : Nat} (hk : (limbs m).length = k) : (decB m).size ≤ 9 * k + 1 := by
  rw [decB_bl, bl_size]
  by_cases h0 : m = 0
  · rw [h0, dec_lt (by omega)]; simp
  · rw [← cat9_trim h0]
    refine Nat.le_trans (List.dropWhile_sublist _).length_le ?_
    rw [cat9_len, hk]; omega
end Go.Proofs.YtnlhalnjbkpdnaaGreatDoor

namespace Go.Proofs.YtnlhalnjbkpdnaaGreatDoor
open Go.RowKit
set_option linter.unusedVariables false
set_option linter.unusedSimpArgs false
theorem digits_S {w0 W : World} {φ0 φ : Phi} {b g : Nat} {cs ds : Array Value} {T E : TypeId} {m k : Nat} {a : Option Addr} {c : Nat} (hp : Hid (PowP φ)) (s : Hid (SlV φ a c (limbs m))) (hk : Hid ((limbs m).length = k)) (hk9 : k ≤ 1000000000) {t : ByteArray} (ht : Hid (decB m = t)) (h : Hid (Fr2 w0 φ0 φ b cs T g ds E W)) :
    Calls Tryz.prog 224 #[.slice a k c] W (fun e w' => e = .returned (.string t) ∧ Hid (Fr2 w0 φ0 φ b cs T g ds E w')) := by
  refine (digits_any h.out.x.inv.fz hp.out s.out hk hk9 ht).mono ?_
  rintro e w' ⟨rfl, hb⟩
  exact ⟨rfl, Lib.hid (h.out.callB hb)⟩
set_option maxRecDepth 100000 in
set_option maxHeartbeats 2000000 in
theorem ratio_any {M : Nat} (hD : Hid (DivOk M)) (hM : LenB M) {neg : Bool} {n d k1 k2 : Nat} {a1 a2 : Option Addr} {c1 c2 : Nat} {w : World} {φ : Phi} (hφ : Fz φ w) (hp : PowP φ) (s1 : SlV φ a1 c1 (limbs n)) (s2 : SlV φ a2 c2 (limbs d)) (h1 : Hid ((limbs n).length = k1)) (h2 : Hid ((limbs d).length = k2)) (hn : n ≤ M) (hd : d ≤ M) (hd0 : 0 < d) {S T : ByteArray} {F : Int} (hR : Hid (ratR (rat neg n d) = (S, T, F))) :
    Calls Tryz.prog 158 #[.agg #[.bool neg, .slice a1 k1 c1, .slice a2 k2 c2]] w (fun e w' => e = .returned (.tuple #[.agg #[.string S, .string T], .int .i64 F]) ∧ Below w.heap.size w w') := by
  have hBX0 := RsSt.start (Inv.start hφ) #[.bool neg, .slice a1 k1 c1, .slice a2 k2 c2] 203
  have hRS0 := RsSt.start hBX0.inv #[.string ⟨#[]⟩, .string ⟨#[]⟩] 33
  have hBX1 := (hBX0.callB ((Below.refl _ _).alloc (Nat.le_refl _) (.cells #[.string ⟨#[]⟩, .string ⟨#[]⟩] 33)))
  rw [alloc_sz] at hRS0
  have hF0 : Hid (Fr2 w φ φ w.heap.size #[.bool neg, .slice a1 k1 c1, .slice a2 k2 c2] 203 (w.heap.size + 1) #[.string ⟨#[]⟩, .string ⟨#[]⟩] 33 _) := Lib.hid ⟨hBX1, hRS0⟩
  clear hBX0 hRS0 hBX1
  obtain ⟨g, hg⟩ : ∃ g, Nat.gcd n d = g := ⟨_, rfl⟩
  have hg0 : 0 < g := by rw [← hg]; exact gcd_dle hd0
  obtain ⟨q1, hq1⟩ : ∃ k, Hid ((limbs (n / g)).length = k) := ⟨_, Lib.hid rfl⟩
  obtain ⟨q2, hq2⟩ : ∃ k, Hid ((limbs (d / g)).length = k) := ⟨_, Lib.hid rfl⟩
  have hl1 : q1 ≤ 1000000000 := by rw [← hq1.out]; exact hM.len (Nat.le_trans (Nat.div_le_self n g) hn)
  have hl2 : q2 ≤ 1000000000 := by rw [← hq2.out]; exact hM.len (Nat.le_trans (Nat.div_le_self d g) hd)
  obtain ⟨ng, hng⟩ : ∃ b, Hid ((neg && decide (n / g ≠ 0)) = b) := ⟨_, Lib.hid rfl⟩
  obtain ⟨s, hs⟩ : ∃ s, Hid (decB (n / g) = s) := ⟨_, Lib.hid rfl⟩
  obtain ⟨t, ht⟩ : ∃ s, Hid (decB (d / g) = s) := ⟨_, Lib.hid rfl⟩
  have hRR : Hid (ratN ng s t = (S, T, F)) := Lib.hid (by
    have := hR.out
    rw [ratR_eq hd0, hg, hng.out, hs.out, ht.out] at this
    exact this)
  have hss : s.size ≤ 9000000000 := by
    rw [← hs.out, decB_bl, bl_size]
    by_cases h0 : n / g = 0
    · rw [h0, dec_lt (by omega)]; simp
    · rw [← cat9_trim h0]
      refine Nat.le_trans (List.dropWhile_sublist _).length_le ?_
      rw [cat9_len, hq1.out]; omega
  have htt : t.size ≤ 9000000000 := by
    rw [← ht.out, decB_bl, bl_size]
    by_cases h0 : d / g = 0
    · rw [h0, dec_lt (by omega)]; simp
    · rw [← cat9_trim h0]
      refine Nat.le_trans (List.dropWhile_sublist _).length_le ?_
      rw [cat9_len, hq2.out]; omega
  have hC := Lib.hid (fun W (hf : Fz φ W) => (lowest_any (neg := neg) hD hf s1 s2 h1 h2 hn hd hd0))
  rw [hg, hng.out] at hC
  have HP := Lib.hid hp
  clear s1 s2 hφ hp hR hg
  obtain ⟨bb, hbb⟩ : ∃ b, Hid (w.heap.size = b) := ⟨_, Lib.hid rfl⟩
  rw [hbb.out] at hF0
  go_enter Tryz.func158, Tryz.ntmps158
  have x0 := hF0.out.x.k.frz 0
  have x1 := hF0.out.x.k.frz 1
  have x2 := hF0.out.x.k.frz 2
  go_wp2_with (go_at_call 223; rw [hbb.out]; refine (hC.out _ hF0.out.x.inv.fz).mono ?_; rintro e w1 ⟨a3, c3, a4, c4, φ1, rfl, hi1, hs3, hs4⟩; rw [hq1.out, hq2.out]; have X1 := Lib.hid (hF0.out.x.call hi1); have R1 := Lib.hid (hF0.out.r.call hi1); have L1 := Lib.hid hi1.le; have SN := Lib.hid hs3; have SD := Lib.hid hs4; have x0 := X1.out.k.frz 0; have x1 := X1.out.k.frz 1; have x2 := X1.out.k.frz 2; have y0 : w1.cell? ⟨bb, 0, none⟩ = some (.bool neg) := X1.out.k.cell 0; have y1 : w1.cell? ⟨bb, 1, none⟩ = some (.slice a1 k1 c1) := X1.out.k.cell 1; have y2 : w1.cell? ⟨bb, 2, none⟩ = some (.slice a2 k2 c2) := X1.out.k.cell 2; clear hi1 hs3 hs4)
  have hF1 : Hid (Fr2 w φ φ1 bb #[.bool ng, .slice a3 q1 c3, .slice a4 q2 c4] 203 (bb + 1) #[.string ⟨#[]⟩, .string ⟨#[]⟩] 33 (((w1.setCell ⟨bb, 0, none⟩ (.bool ng)).setCell ⟨bb, 1, none⟩ (.slice a3 q1 c3)).setCell ⟨bb, 2, none⟩ (.slice a4 q2 c4))) := Lib.hid
    ⟨((X1.out.set 0 (.bool ng)).set 1 (.slice a3 q1 c3)).set 2 (.slice a4 q2 c4),
     (((R1.out.oth X1.out (by omega) 0 (.bool ng)).oth (X1.out.set 0 (.bool ng)) (by omega) 1 (.slice a3 q1 c3)).oth ((X1.out.set 0 (.bool ng)).set 1 (.slice a3 q1 c3)) (by omega) 2 (.slice a4 q2 c4))⟩
  clear X1 R1 x0 x1 x2 y0 y1 y2
  generalize ((w1.setCell ⟨bb, 0, none⟩ (.bool ng)).setCell ⟨bb, 1, none⟩ (.slice a3 q1 c3)).setCell ⟨bb, 2, none⟩ (.slice a4 q2 c4) = wx at *
  have HP1 := Lib.hid (HP.out.mono L1.out)
  have hFd : Hid (Fr2 w φ φ1 bb #[.bool ng, .slice a3 q1 c3, .slice a4 q2 c4] 203 (bb + 1) #[.string ⟨#[]⟩, .string ⟨#[]⟩] 33 wx.drew) := Lib.hid (hF1.out.callB (bdrewN (Below.refl _ wx) 1))
  have y0 : wx.cell? ⟨bb, 0, none⟩ = some (.bool ng) := hF1.out.x.k.cell 0
  have y1 : wx.cell? ⟨bb, 1, none⟩ = some (.slice a3 q1 c3) := hF1.out.x.k.cell 1
  have y2 : wx.cell? ⟨bb, 2, none⟩ = some (.slice a4 q2 c4) := hF1.out.x.k.cell 2
  clear hF1
  go_region_held3 (fun w' => w'.cell? ⟨bb, 0, none⟩ = some (.bool ng) ∧ w'.cell? ⟨bb, 1, none⟩ = some (.slice a3 q1 c3) ∧ w'.cell? ⟨bb, 2, none⟩ = some (.slice a4 q2 c4)) (first | exact ⟨y0, y1, y2⟩ | exact ⟨by assumption, by assumption, by assumption⟩) (first
    | ((with_reducible refine (digits_S HP1 SN hq1 hl1 hs (by assumption)).mono ?_); rintro e w' ⟨rfl, hX⟩; have z0 : w'.cell? ⟨bb, 0, none⟩ = some (.bool ng) := hX.out.x.k.cell 0; have z1 : w'.cell? ⟨bb, 1, none⟩ = some (.slice a3 q1 c3) := hX.out.x.k.cell 1; have z2 : w'.cell? ⟨bb, 2, none⟩ = some (.slice a4 q2 c4) := hX.out.x.k.cell 2)
    | ((with_reducible refine (digits_S HP1 SD hq2 hl2 ht (by assumption)).mono ?_); rintro e w' ⟨rfl, hX⟩; have z0 : w'.cell? ⟨bb, 0, none⟩ = some (.bool ng) := hX.out.x.k.cell 0; have z1 : w'.cell? ⟨bb, 1, none⟩ = some (.slice a3 q1 c3) := hX.out.x.k.cell 1; have z2 : w'.cell? ⟨bb, 2, none⟩ = some (.slice a4 q2 c4) := hX.out.x.k.cell 2))
  rename World => W9
  have hF9 : Hid (Fr2 w φ φ1 bb #[.bool ng, .slice a3 q1 c3, .slice a4 q2 c4] 203 (bb + 1) #[.string ⟨#[]⟩, .string ⟨#[]⟩] 33 W9) := by assumption
  by_cases g1 : 2000 < s.size
  · have g1i : (2000 : Int) < (s.size : Int) := by omega
    have hq : Hid (S = ⟨#[]⟩ ∧ T = ⟨#[]⟩ ∧ F = 2) := Lib.hid (by
      have := hRR.out; rw [ratN, if_pos (.inl g1)] at this
      cases this; exact ⟨rfl, rfl, rfl⟩)
    clear g1
    have r0 : W9.cell? ⟨bb + 1, 0, none⟩ = some (.string ⟨#[]⟩) := hF9.out.r.k.cell 0
    have r1 : W9.cell? ⟨bb + 1, 1, none⟩ = some (.string ⟨#[]⟩) := hF9.out.r.k.cell 1
    have r2 := hF9.out.r.k.frz 0
    have r3 := hF9.out.r.k.frz 1
    have hZ := Lib.hid ((hF9.out.r.set 0 (.string ⟨#[]⟩)).set 1 (.string ⟨#[]⟩))
    go_wp2
    have e0 : _ = some (Value.string ⟨#[]⟩) := hZ.out.k.cell 0
    have e1 : _ = some (Value.string ⟨#[]⟩) := hZ.out.k.cell 1
    (try simp only [Exit.inBlock, Exit.then])
    refine bodyPost_ret (v := .tuple #[.agg #[.string ⟨#[]⟩, .string ⟨#[]⟩], .int .i64 2]) (by simp [results, Tryz.results158, go_sem, e0, e1]) rfl ?_
    exact ⟨by rw [hq.out.1, hq.out.2.1, hq.out.2.2], hZ.out.inv.bel⟩
  · have g1i : ¬ (2000 : Int) < (s.size : Int) := by omega
    by_cases g2 : 2000 < t.size
    · have g2i : (2000 : Int) < (t.size : Int) := by omega
      have hq : Hid (S = ⟨#[]⟩ ∧ T = ⟨#[]⟩ ∧ F = 2) := Lib.hid (by
        have := hRR.out; rw [ratN, if_pos (.inr g2)] at this
        cases this; exact ⟨rfl, rfl, rfl⟩)
      clear g1 g2
      have r0 : W9.cell? ⟨bb + 1, 0, none⟩ = some (.string ⟨#[]⟩) := hF9.out.r.k.cell 0
      have r1 : W9.cell? ⟨bb + 1, 1, none⟩ = some (.string ⟨#[]⟩) := hF9.out.r.k.cell 1
      have r2 := hF9.out.r.k.frz 0
      have r3 := hF9.out.r.k.frz 1
      have hZ := Lib.hid ((hF9.out.r.set 0 (.string ⟨#[]⟩)).set 1 (.string ⟨#[]⟩))
      go_wp2
      have e0 : _ = some (Value.string ⟨#[]⟩) := hZ.out.k.cell 0
      have e1 : _ = some (Value.string ⟨#[]⟩) := hZ.out.k.cell 1
      (try simp only [Exit.inBlock, Exit.then])
      refine bodyPost_ret (v := .tuple #[.agg #[.string ⟨#[]⟩, .string ⟨#[]⟩], .int .i64 2]) (by simp [results, Tryz.results158, go_sem, e0, e1]) rfl ?_
      exact ⟨by rw [hq.out.1, hq.out.2.1, hq.out.2.2], hZ.out.inv.bel⟩
    · have g2i : ¬ (2000 : Int) < (t.size : Int) := by omega
      have g3 : ¬ 9223372036854775807 < 1 + s.size := by omega
      have hq0 := hRR.out
      rw [ratN, if_neg (by omega)] at hq0
      clear g1 g2
      cases ng
      · have hq : Hid (S = s ∧ T = t ∧ F = 0) := Lib.hid (by
          rw [if_neg (by simp)] at hq0; cases hq0; exact ⟨rfl, rfl, rfl⟩)
        clear hq0
        have r0 : W9.cell? ⟨bb + 1, 0, none⟩ = some (.string ⟨#[]⟩) := hF9.out.r.k.cell 0
        have r1 : W9.cell? ⟨bb + 1, 1, none⟩ = some (.string ⟨#[]⟩) := hF9.out.r.k.cell 1
        have r2 := hF9.out.r.k.frz 0
        have r3 := hF9.out.r.k.frz 1
        have hZ := Lib.hid ((hF9.out.r.set 0 (.string s)).set 1 (.string t))
        go_wp2
        have e0 : _ = some (Value.string s) := hZ.out.k.cell 0
        have e1 : _ = some (Value.string t) := hZ.out.k.cell 1
        (try simp only [Exit.inBlock, Exit.then])
        refine bodyPost_ret (v := .tuple #[.agg #[.string s, .string t], .int .i64 0]) (by simp [results, Tryz.results158, go_sem, e0, e1]) rfl ?_
        exact ⟨by rw [hq.out.1, hq.out.2.1, hq.out.2.2], hZ.out.inv.bel⟩
      · have hq : Hid (S = (⟨#[45]⟩ ++ s) ∧ T = t ∧ F = 0) := Lib.hid (by
          rw [if_pos rfl] at hq0; cases hq0; exact ⟨rfl, rfl, rfl⟩)
        clear hq0
        have r0 : W9.cell? ⟨bb + 1, 0, none⟩ = some (.string ⟨#[]⟩) := hF9.out.r.k.cell 0
        have r1 : W9.cell? ⟨bb + 1, 1, none⟩ = some (.string ⟨#[]⟩) := hF9.out.r.k.cell 1
        have r2 := hF9.out.r.k.frz 0
        have r3 := hF9.out.r.k.frz 1
        have hZ := Lib.hid ((hF9.out.r.set 0 (.string (⟨#[45]⟩ ++ s))).set 1 (.string t))
        go_wp2
        have e0 : _ = some (Value.string (⟨#[45]⟩ ++ s)) := hZ.out.k.cell 0
        have e1 : _ = some (Value.string t) := hZ.out.k.cell 1
        (try simp only [Exit.inBlock, Exit.then])
        refine bodyPost_ret (v := .tuple #[.agg #[.string (⟨#[45]⟩ ++ s), .string t], .int .i64 0]) (by simp [results, Tryz.results158, go_sem, e0, e1]) rfl ?_
        exact ⟨by rw [hq.out.1, hq.out.2.1, hq.out.2.2], hZ.out.inv.bel⟩
end Go.Proofs.YtnlhalnjbkpdnaaGreatDoor

namespace Go.Proofs.YtnlhalnjbkpdnaaGreatDoor
open Go.RowKit
set_option linter.unusedVariables false
set_option linter.unusedSimpArgs false
theorem sgn_of (n : Int) : sgn (decide (n < 0)) n.natAbs = n := by
  unfold sgn
  by_cases h : n < 0
  · rw [decide_eq_true h, if_pos rfl]; omega
  · rw [decide_eq_false h, if_neg (by simp)]; omega
theorem rat_quot {num den : Int} (h : den ≠ 0) : rat (!(decide (num < 0) == decide (den < 0))) num.natAbs den.natAbs = (num : Rat) / (den : Rat) := by
  have := rat_over (s1 := decide (num < 0)) (s2 := decide (den < 0)) (n1 := num.natAbs) (d1 := 1) (n2 := den.natAbs) (d2 := 1) (by omega) (by omega) (by omega)
  rw [rat_one, rat_one, sgn_of, sgn_of, Nat.mul_one, Nat.one_mul] at this
  exact this
set_option maxRecDepth 100000 in
set_option maxHeartbeats 2000000 in
theorem RatioOf_any {M : Nat} (hD : Hid (DivOk M)) (hM : LenB M) {num den : Int} (b1 : -9223372036854775808 ≤ num) (b2 : num ≤ 9223372036854775807) (b3 : -9223372036854775808 ≤ den) (b4 : den ≤ 9223372036854775807) (hn : num.natAbs ≤ M) (hd : den.natAbs ≤ M) (hd0 : den ≠ 0) {w : World} {φ : Phi} (hφ : Fz φ w) (hp : PowP φ) {S T : ByteArray} {F : Int} (hR : Hid (ratR ((num : Rat) / (den : Rat)) = (S, T, F))) :
    Calls Tryz.prog 123 #[.int .i64 num, .int .i64 den] w (fun e w' => e = .returned (.tuple #[.agg #[.string S, .string T], .int .i64 F]) ∧ Below w.heap.size w w') := by
  have hRS := Lib.hid (RsSt.start (Inv.start hφ) #[.string ⟨#[]⟩, .string ⟨#[]⟩] 33)
  have hR2 : Hid (ratR (rat (!(decide (num < 0) == decide (den < 0))) num.natAbs den.natAbs) = (S, T, F)) := Lib.hid (by rw [rat_quot hd0, hR.out])
  have hdp : 0 < den.natAbs := by omega
  have hl1 : num.natAbs < 18446744073709551616 := by omega
  have hl2 : den.natAbs < 18446744073709551616 := by omega
  have hg : ((den : Int) == 0) = false := by simp [hd0]
  have HP := Lib.hid hp
  obtain ⟨n, hN⟩ : ∃ n, num.natAbs = n := ⟨_, rfl⟩
  obtain ⟨d, hDn⟩ : ∃ n, den.natAbs = n := ⟨_, rfl⟩
  have HN := Lib.hid hN
  have HDN := Lib.hid hDn
  rw [hN, hDn] at hR2
  rw [hN] at hn hl1
  rw [hDn] at hd hl2 hdp
  obtain ⟨q1, hq1⟩ : ∃ k, Hid ((limbs n).length = k) := ⟨_, Lib.hid rfl⟩
  obtain ⟨q2, hq2⟩ : ∃ k, Hid ((limbs d).length = k) := ⟨_, Lib.hid rfl⟩
  clear hR hφ hp hd0 hN hDn
  go_enter Tryz.func123, Tryz.ntmps123
  go_wp2_with (first
    | (go_at_call 171; first | ((with_reducible refine (magnitude_any num b1 b2 _).mono ?_); rintro e w' ⟨rfl, rfl⟩; rw [HN.out]) | ((with_reducible refine (magnitude_any den b3 b4 _).mono ?_); rintro e w' ⟨rfl, rfl⟩; rw [HDN.out]))
    | (go_at_call 170; (with_reducible refine (small_any d hl2 _ φ2 H2.out.inv.fz).mono ?_); rintro e w3 ⟨a4, c4, φ3, rfl, hi3, hs3⟩; rw [hq2.out]; have H3 := Lib.hid (H2.out.call hi3); have SB := Lib.hid hs3; have SA3 := Lib.hid (SA.out.mono hi3.le); have L3 := Lib.hid (L2.out.trans hi3.le); clear hi3 hs3)
    | (go_at_call 170; (with_reducible refine (small_any n hl1 _ φ hRS.out.inv.fz).mono ?_); rintro e w2 ⟨a3, c3, φ2, rfl, hi2, hs2⟩; rw [hq1.out]; have H2 := Lib.hid (hRS.out.call hi2); have SA := Lib.hid hs2; have L2 := Lib.hid hi2.le; clear hi2 hs2)
    | (go_at_call 158; refine (ratio_any hD hM H3.out.inv.fz (HP.out.mono L3.out) SA3.out SB.out hq1 hq2 hn hd hdp hR2).mono ?_; rintro e w4 ⟨rfl, hb4⟩; have H4 := Lib.hid (H3.out.callB hb4); clear hb4; have r0 : w4.cell? ⟨w.heap.size, 0, none⟩ = some (.string ⟨#[]⟩) := H4.out.k.cell 0; have r1 : w4.cell? ⟨w.heap.size, 1, none⟩ = some (.string ⟨#[]⟩) := H4.out.k.cell 1; have r2 := H4.out.k.frz 0; have r3 := H4.out.k.frz 1))
  have hZ := Lib.hid ((H4.out.set 0 (.string S)).set 1 (.string T))
  have e0 : _ = some (Value.string S) := hZ.out.k.cell 0
  have e1 : _ = some (Value.string T) := hZ.out.k.cell 1
  (try simp only [Exit.inBlock, Exit.then])
  refine bodyPost_ret (v := .tuple #[.agg #[.string S, .string T], .int .i64 F]) (by simp [results, Tryz.results123, go_sem, e0, e1]) rfl ?_
  exact ⟨rfl, hZ.out.inv.bel⟩
end Go.Proofs.YtnlhalnjbkpdnaaGreatDoor

namespace Go.Proofs.YtnlhalnjbkpdnaaGreatDoor
open Go.RowKit
set_option linter.unusedVariables false
set_option linter.unusedSimpArgs false
set_option maxRecDepth 100000 in
set_option maxHeartbeats 1000000 in
theorem fraction_any {M : Nat} (hD : Hid (DivOk M)) (hM : LenB M) {num den : Int} (b1 : -9223372036854775808 ≤ num) (b2 : num ≤ 9223372036854775807) (b3 : -9223372036854775808 ≤ den) (b4 : den ≤ 9223372036854775807) (hn : num.natAbs ≤ M) (hd : den.natAbs ≤ M) (hd0 : den ≠ 0) {w : World} {φ : Phi} (hφ : Fz φ w) (hp : PowP φ) {S T : ByteArray} {F : Int} (hR : Hid (ratR ((num : Rat) / (den : Rat)) = (S, T, F))) :
    Calls Tryz.prog 53 #[.int .i64 num, .int .i64 den] w (fun e w' => e = .returned (.agg #[.string S, .string T]) ∧ Below w.heap.size w w') := by
  have hRS := Lib.hid (RsSt.start (Inv.start hφ) #[.string ⟨#[]⟩, .string ⟨#[]⟩] 33)
  clear hφ
  go_enter Tryz.func53, Tryz.ntmps53
  go_wp2_with (go_at_call 123; refine (RatioOf_any hD hM b1 b2 b3 b4 hn hd hd0 hRS.out.inv.fz hp hR).mono ?_; rintro e w2 ⟨rfl, hb2⟩; have H2 := Lib.hid (hRS.out.callB hb2); have r0 : w2.cell? ⟨w.heap.size, 0, none⟩ = some (.string ⟨#[]⟩) := H2.out.k.cell 0; have r1 : w2.cell? ⟨w.heap.size, 1, none⟩ = some (.string ⟨#[]⟩) := H2.out.k.cell 1; have r2 := H2.out.k.frz 0; have r3 := H2.out.k.frz 1; have hlt := H2.out.k.lt)
  have hZ := Lib.hid (((H2.out.set 0 (.string S)).set 1 (.string T)).callB ((Below.refl _ _).alloc (Nat.le_refl _) (.cells #[.string S, .string T] 33)))
  have e0 : _ = some (Value.string S) := hZ.out.k.cell 0
  have e1 : _ = some (Value.string T) := hZ.out.k.cell 1
  (try simp only [Exit.inBlock, Exit.then])
  refine bodyPost_ret (v := .agg #[.string S, .string T]) (by simp [results, Tryz.results53, go_sem, e0, e1]) rfl ?_
  exact ⟨rfl, hZ.out.inv.bel⟩
end Go.Proofs.YtnlhalnjbkpdnaaGreatDoor

namespace Go.Proofs.YtnlhalnjbkpdnaaGreatDoor
open Go.RowKit
set_option linter.unusedVariables false
set_option linter.unusedSimpArgs false
def isD (c : UInt8) : Prop := 48 ≤ c.toNat ∧ c.toNat ≤ 57
/-- The number that digits spell. -/
def dV (l : List UInt8) : Nat := l.foldl (fun a c => a * 10 + (c.toNat - 48)) 0
theorem dV_fold (l : List UInt8) : ∀ a, l.foldl (fun a c => a * 10 + (c.toNat - 48)) a = a * 10 ^ l.length + dV l := by
  unfold dV
  induction l with
  | nil => intro a; simp
  | cons c l ih =>
    intro a
    rw [List.foldl_cons, List.foldl_cons, ih (a * 10 + (c.toNat - 48)), ih (0 * 10 + (c.toNat - 48)), List.length_cons, Nat.pow_succ, Nat.zero_mul, Nat.zero_add, Nat.add_mul, Nat.mul_assoc, Nat.mul_comm 10, Nat.add_assoc]
theorem dV_app (l m : List UInt8) : dV (l ++ m) = dV l * 10 ^ m.length + dV m := by
  show (l ++ m).foldl _ 0 = _
  rw [List.foldl_append]
  exact dV_fold m _
theorem dV_snoc (l : List UInt8) (c : UInt8) : dV (l ++ [c]) = dV l * 10 + (c.toNat - 48) := by
  rw [dV_app]; simp [dV]
theorem dV_nil : dV [] = 0 := rfl
theorem dV_lt {l : List UInt8} (h : ∀ c ∈ l, isD c) : dV l < 10 ^ l.length := by
  induction l with
  | nil => simp [dV]
  | cons c l ih =>
    have h1 := ih (fun x hx => h x (List.mem_cons_of_mem _ hx))
    have h2 := h c (by simp)
    have e : dV (c :: l) = (c.toNat - 48) * 10 ^ l.length + dV l := by
      have := dV_app [c] l
      rw [List.singleton_append] at this
      rw [this]; simp [dV]
    rw [e, List.length_cons, Nat.pow_succ]
    have h3 : (c.toNat - 48) * 10 ^ l.length ≤ 9 * 10 ^ l.length := Nat.mul_le_mul_right _ (by have := h2.2; omega)
    omega
def AllD (s : ByteArray) : Prop := ∀ c ∈ s.data.toList, isD c
/-- A decimal number without a 0 ahead of others. -/
def numP (s : ByteArray) : Prop := s.size ≠ 0 ∧ AllD s ∧ (s.data.toList.getD 0 0 ≠ 48 ∨ s.data.toList = [48])
noncomputable def numB (s : ByteArray) : Bool := @decide (numP s) (Classical.propDecidable _)
theorem numB_true {s : ByteArray} (h : numP s) : numB s = true := by unfold numB; exact @decide_eq_true _ (Classical.propDecidable _) h
theorem numB_false {s : ByteArray} (h : ¬ numP s) : numB s = false := by unfold numB; exact @decide_eq_false _ (Classical.propDecidable _) h
theorem numB_P {s : ByteArray} (h : numB s = true) : numP s := by unfold numB at h; exact @of_decide_eq_true _ (Classical.propDecidable _) h
/-- Digits are read from the end, nine at a time. -/
structure RdI (l : List UInt8) (os : List Nat) (k : Nat) : Prop where
  lim : Lim os
  le : k ≤ l.length
  eq : LV os + lb ^ os.length * dV (l.take k) = dV l
theorem RdI.start (l : List UInt8) : RdI l [] l.length := ⟨fun x hx => by simp at hx, Nat.le_refl _, by simp [LV]⟩
theorem RdI.limb {l : List UInt8} {k : Nat} (hd : ∀ c ∈ l, isD c) (hk : k ≤ l.length) : dV ((l.take k).drop (k - 9)) < 1000000000 := by
  have h1 := dV_lt (l := (l.take k).drop (k - 9)) (fun c hc => hd c (List.mem_of_mem_take (List.mem_of_mem_drop hc)))
  rw [List.length_drop, List.length_take, Nat.min_eq_left hk] at h1
  have h2 : 10 ^ (k - (k - 9)) ≤ 10 ^ 9 := Nat.pow_le_pow_right (by decide) (by omega)
  rw [← lb_ten] at h2
  exact Nat.lt_of_lt_of_le h1 h2
theorem rd_step {A P B T U x D : Nat} (h : A + P * (T * B + x) = D) : A + P * x + P * B * T = D := by
  rw [← h, Nat.mul_add, Nat.mul_assoc, Nat.mul_comm B]
  omega
theorem RdI.next {l : List UInt8} {os : List Nat} {k : Nat} (h : RdI l os k) (hd : ∀ c ∈ l, isD c) : RdI l (os ++ [dV ((l.take k).drop (k - 9))]) (k - 9) := by
  have hl : dV ((l.take k).drop (k - 9)) < lb := RdI.limb hd h.le
  have hle := h.le
  refine ⟨h.lim.append (Lim.one hl), by omega, ?_⟩
  have e : dV (l.take k) = dV (l.take (k - 9)) * 10 ^ (k - (k - 9)) + dV ((l.take k).drop (k - 9)) := by
    have h1 : l.take k = (l.take k).take (k - 9) ++ (l.take k).drop (k - 9) := (List.take_append_drop _ _).symm
    rw [List.take_take, Nat.min_eq_left (by omega)] at h1
    have h2 := dV_app (l.take (k - 9)) ((l.take k).drop (k - 9))
    rw [← h1, List.length_drop, List.length_take, Nat.min_eq_left hle] at h2
    exact h2
  have e2 := h.eq
  rw [e] at e2
  have e3 : LV (os ++ [dV ((l.take k).drop (k - 9))]) = LV os + lb ^ os.length * dV ((l.take k).drop (k - 9)) := by
    rw [LV_append]; simp [LV]
  have e4 : lb ^ (os ++ [dV ((l.take k).drop (k - 9))]).length = lb ^ os.length * lb := by
    rw [List.length_append, List.length_singleton, Nat.pow_succ]
  rw [e3, e4]
  rcases Nat.lt_or_ge k 9 with q | q
  · have hz : k - 9 = 0 := by omega
    rw [hz, List.take_zero, dV_nil] at e2 ⊢
    rw [Nat.zero_mul, Nat.zero_add] at e2
    rw [Nat.mul_zero, Nat.add_zero]
    exact e2
  · have hz : k - (k - 9) = 9 := by omega
    rw [hz, ← lb_ten] at e2
    exact rd_step (U := 0) e2
theorem RdI.done {l : List UInt8} {os : List Nat} (h : RdI l os 0) : LV os = dV l := by
  have := h.eq
  rw [List.take_zero, dV_nil, Nat.mul_zero, Nat.add_zero] at this
  exact this
/-- The sign of a numerator, and what stands behind it. -/
def negB (s : ByteArray) : Bool := Lib.hasPrefix s.data.toList [45]
def bodyB (s : ByteArray) : ByteArray := ⟨(Lib.trimPrefix s.data.toList [45]).toArray⟩
/-- The form of a ratio's texts. -/
def forP (n d : ByteArray) : Prop := numP (bodyB n) ∧ numP d ∧ d.data.toList ≠ [48] ∧ ¬ (negB n = true ∧ (bodyB n).data.toList = [48])
open Classical in
/-- The error of a ratio. -/
noncomputable def ratF (n d : ByteArray) : Int :=
  if 2000 < (bodyB n).size ∨ 2000 < d.size then 2 else if forP n d then (if Nat.gcd (dV (bodyB n).data.toList) (dV d.data.toList) = 1 then 0 else 3) else 3
/-- The number of a ratio. -/
def ratX (n d : ByteArray) : Rat := rat (negB n) (dV (bodyB n).data.toList) (dV d.data.toList)
theorem ratF_large {n d : ByteArray} (h : 2000 < (bodyB n).size ∨ 2000 < d.size) : ratF n d = 2 := by unfold ratF; rw [if_pos h]
theorem ratF_form {n d : ByteArray} (h : ¬ (2000 < (bodyB n).size ∨ 2000 < d.size)) (h2 : ¬ forP n d) : ratF n d = 3 := by unfold ratF; rw [if_neg h, if_neg h2]
theorem ratF_gcd {n d : ByteArray} (h : ¬ (2000 < (bodyB n).size ∨ 2000 < d.size)) (h2 : forP n d) (h3 : Nat.gcd (dV (bodyB n).data.toList) (dV d.data.toList) ≠ 1) : ratF n d = 3 := by unfold ratF; rw [if_neg h, if_pos h2, if_neg h3]
theorem ratF_zero {n d : ByteArray} (h : ¬ (2000 < (bodyB n).size ∨ 2000 < d.size)) (h2 : forP n d) (h3 : Nat.gcd (dV (bodyB n).data.toList) (dV d.data.toList) = 1) : ratF n d = 0 := by unfold ratF; rw [if_neg h, if_pos h2, if_pos h3]
theorem numP_pos {s : ByteArray} (h : numP s) (h0 : s.data.toList ≠ [48]) : 0 < dV s.data.toList := by
  obtain ⟨h1, h2, h3⟩ := h
  rcases h3 with h3 | h3
  · cases hl : s.data.toList with
    | nil => exact absurd (by show s.data.size = 0; rw [← Array.length_toList, hl]; rfl) h1
    | cons c l =>
      rw [hl] at h3
      have hc := h2 c (by rw [hl]; simp)
      have e : dV (c :: l) = (c.toNat - 48) * 10 ^ l.length + dV l := by
        have := dV_app [c] l
        rw [List.singleton_append] at this
        rw [this]; simp [dV]
      have h4 : c.toNat ≠ 48 := by
        intro e
        apply h3
        simp only [List.getD_cons_zero]
        exact UInt8.toNat_inj.1 (by rw [e]; rfl)
      have h5 : 1 ≤ c.toNat - 48 := by have := hc.1; omega
      have h6 : 1 * 10 ^ l.length ≤ (c.toNat - 48) * 10 ^ l.length := Nat.mul_le_mul_right _ h5
      have h7 : 0 < 10 ^ l.length := Nat.pow_pos (by decide)
      rw [e]; omega
  · exact absurd h3 h0
end Go.Proofs.YtnlhalnjbkpdnaaGreatDoor

namespace Go.Proofs.YtnlhalnjbkpdnaaGreatDoor
open Go.RowKit
set_option linter.unusedVariables false
set_option linter.unusedSimpArgs false
theorem bat (s : ByteArray) {k : Nat} (h : k < s.size) : s.data.toList.getD k 0 = s[k] := by
  have h' : k < s.data.toList.length := h
  rw [getD_elem0 0 _ _ h']; rfl
theorem bmem (s : ByteArray) {k : Nat} (h : k < s.size) : s[k] ∈ s.data.toList := by
  have h' : k < s.data.toList.length := h
  rw [← bat s h, getD_elem0 0 _ _ h']; exact List.getElem_mem h'
theorem toList_nil (s : ByteArray) : s.toList = [] ↔ s.size = 0 := by
  rw [ByteArray.toList_eq]
  show s.data.toList = [] ↔ s.data.size = 0
  rw [← Array.length_toList, List.length_eq_zero_iff]
theorem isEmpty_false {s : ByteArray} (h : ¬ s.toList = []) : s.toList.isEmpty = false := by
  cases hl : s.toList with
  | nil => exact absurd hl h
  | cons _ _ => rfl
theorem ext_take (t : ByteArray) {j : Nat} (h : j ≤ t.size) : (t.extract 0 j).data.toList = t.data.toList.take j ∧ (t.extract 0 j).size = j := by
  refine ⟨?_, ?_⟩
  · rw [ByteArray.data_extract]; simp
  · rw [ByteArray.size_extract]; omega
def strN : Value → Nat
  | .string s => s.size
  | _ => 0
set_option maxHeartbeats 1000000 in
theorem isDigits_any {s : ByteArray} (hs : s.size ≤ 9223372036854775807) {b : Bool} (hb : Hid (numB s = b)) (w : World) :
    Calls Tryz.prog 259 #[.string s] w (fun e w' => e = .returned (.bool b) ∧ w = w') := by
  go_enter Tryz.func259, Tryz.ntmps259
  go_wp2
  go_loop [3] (fun v => ∃ k : Nat, k ≤ s.size ∧ v = .int .i64 (k : Int) ∧ Hid (∀ j, j < k → isD (s.data.toList.getD j 0))) (fun v => s.size - (intOf v).toNat)
  case atStart => exact ⟨0, Nat.zero_le _, rfl, Lib.hid (fun j hj => by omega)⟩
  case round =>
    obtain ⟨k, hk, rfl, hok⟩ := hrel
    by_cases hlt : k < s.size
    · have hbt := Lib.hid (bat s hlt)
      by_cases h1 : ((s[k]'hlt).toNat : Int) < 48
      · have hq : Hid (b = false) := Lib.hid (by
          rw [← hb.out]
          exact numB_false (fun h => by have := (h.2.1 _ (bmem s hlt)).1; omega))
        go_wp2
        go_ret
        exact ⟨ret_bool hq.out.symm, rfl⟩
      · by_cases h2 : (57 : Int) < ((s[k]'hlt).toNat : Int)
        · have hq : Hid (b = false) := Lib.hid (by
            rw [← hb.out]
            exact numB_false (fun h => by have := (h.2.1 _ (bmem s hlt)).2; omega))
          go_wp2
          go_ret
          exact ⟨ret_bool hq.out.symm, rfl⟩
        · have hn : Hid (∀ j, j < k + 1 → isD (s.data.toList.getD j 0)) := Lib.hid (fun j hj => by
            by_cases e : j = k
            · rw [e, hbt.out]; exact ⟨by omega, by omega⟩
            · exact hok.out j (by omega))
          go_wp2
          go_round
          case rel => exact ⟨k + 1, by omega, by go_num, hn⟩
          case measure => (simp [intOf] <;> omega)
    · obtain rfl : k = s.size := by omega
      have hall : Hid (AllD s) := Lib.hid (fun c hc => by
        obtain ⟨j, hj, rfl⟩ := List.getElem_of_mem hc
        have := hok.out j hj
        rwa [getD_elem0 0 _ _ hj] at this)
      clear hok
      by_cases h0 : s.size = 0
      · have he : s.toList = [] := (toList_nil s).2 h0
        have hq : Hid (b = false) := Lib.hid (by rw [← hb.out]; exact numB_false (fun h => h.1 h0))
        clear h0
        go_wp2
        go_ret
        exact ⟨ret_bool hq.out.symm, rfl⟩
      · have he : ¬ s.toList = [] := fun e => h0 ((toList_nil s).1 e)
        have hpos : 0 < s.size := by omega
        have h0' := Lib.hid h0
        clear h0
        by_cases h48 : ((s[0]'hpos).toNat : Int) = 48
        · have hq : Hid ((!s.toList.isEmpty && s.toList == [48]) = b) := Lib.hid (by
            rw [← hb.out, isEmpty_false he, ByteArray.toList_eq, Bool.not_false, Bool.true_and]
            by_cases e : s.data.toList = [48]
            · rw [numB_true ⟨h0'.out, hall.out, .inr e⟩, e]; rfl
            · rw [numB_false (fun h => ?_), beq_eq_false_iff_ne]
              · exact e
              · rcases h.2.2 with q | q
                · apply q
                  rw [bat s hpos]
                  exact UInt8.toNat_inj.1 (by have : (s[0]'hpos).toNat = 48 := by omega
                                              rw [this]; rfl)
                · exact e q)
          go_wp2
          go_ret
          exact ⟨ret_bool hq.out, rfl⟩
        · have hq : Hid ((!s.toList.isEmpty) = b) := Lib.hid (by
            rw [← hb.out, isEmpty_false he, Bool.not_false, numB_true ⟨h0'.out, hall.out, .inl ?_⟩]
            rw [bat s hpos]
            intro e
            apply h48
            rw [e]; rfl)
          go_wp2
          go_ret
          exact ⟨ret_bool hq.out, rfl⟩
set_option maxRecDepth 100000 in
set_option maxHeartbeats 2000000 in
theorem ofDigits_any {s : ByteArray} (hs : s.size ≤ 2000000000) (hd : Hid (AllD s)) {v : Nat} (hv : Hid (dV s.data.toList = v)) {w : World} {φ : Phi} (hφ : Fz φ w) :
    Calls Tryz.prog 260 #[.string s] w (NatPost v φ w) := by
  have hS0 : Hid (OwSt w φ 215 none 0 ([] : List Nat) w) := Lib.hid ⟨Inv.start hφ, Own.nil _ _ _ _⟩
  have hR0 := Lib.hid (RdI.start s.data.toList)
  clear hφ
  go_enter Tryz.func260, Tryz.ntmps260
  go_wp2
  go_loopw [0, 3] (fun sv ov wr => ∃ (t : ByteArray) (os : List Nat) (ao : Option Addr) (co : Nat), sv = .string t ∧ ov = .slice ao os.length co ∧ t.size ≤ s.size ∧ (0 < t.size → 9 * os.length + t.size ≤ s.size) ∧ 9 * os.length ≤ s.size + 9 ∧ Hid (t.data.toList = s.data.toList.take t.size) ∧ Hid (RdI s.data.toList os t.size) ∧ Hid (OwSt w φ 215 ao co os wr)) (fun sv _ _ => strN sv)
  case atStart => exact ⟨s, [], none, 0, rfl, rfl, Nat.le_refl _, fun _ => by simp, by simp, Lib.hid (List.take_of_length_le (Nat.le_refl _)).symm, hR0, hS0⟩
  case round =>
    clear hS0 hR0
    obtain ⟨t, os, ao, co, rfl, rfl, hts, hol1, hol, htt, hR, hS⟩ := hrel
    by_cases hpos : 0 < t.size
    · have hol2 := hol1 hpos
      obtain ⟨j, hj⟩ : ∃ j, j = t.size - 9 := ⟨_, rfl⟩
      have hmx : Hid (max (0 : Int) ((t.size : Int) - 9) = (j : Int)) := Lib.hid (by omega)
      have hj1 : j ≤ t.size := by omega
      have hj2 : j < t.size := by omega
      have hj3 : t.size ≤ j + 9 := by omega
      have hj4 : 0 < j → j + 9 ≤ t.size := by omega
      have hdt : Hid (∀ c ∈ t.data.toList, isD c) := Lib.hid (fun c hc => hd.out c (by rw [htt.out] at hc; exact List.mem_of_mem_take hc))
      have hlimb : Hid (dV (t.data.toList.drop j) < 1000000000) := Lib.hid (by
        have := RdI.limb (k := t.size) hd.out hR.out.le
        rw [← htt.out, ← hj] at this; exact this)
      have hR2 := hR.out.next hd.out
      rw [← htt.out, ← hj] at hR2
      have HR2 := Lib.hid hR2
      clear hR2 hR hj
      go_upto_region 4 with fail
      rw [hmx.out]
      go_wp2
      go_loop [5, 6] (fun lv iv => ∃ (i l : Nat), j ≤ i ∧ i ≤ t.size ∧ iv = .int .i64 (i : Int) ∧ lv = .int .u64 (l : Int) ∧ Hid (dV ((t.data.toList.take i).drop j) = l)) (fun _ iv => t.size - (intOf iv).toNat)
      case atStart => exact ⟨j, 0, Nat.le_refl _, hj1, rfl, rfl, Lib.hid (by rw [List.drop_of_length_le (by rw [List.length_take]; omega)]; rfl)⟩
      case round =>
        obtain ⟨i, l, hij, hit, rfl, rfl, hl⟩ := hrel
        by_cases hlt : i < t.size
        · have hc := hdt.out _ (bmem t hlt)
          have hc1 : (48 : Int) ≤ ((t[i]'hlt).toNat : Int) := by have := hc.1; omega
          have hc2 : ((t[i]'hlt).toNat : Int) ≤ 57 := by have := hc.2; omega
          have hll : l < 1000000000 := by
            have h1 := dV_lt (l := (t.data.toList.take i).drop j) (fun c hc => hdt.out c (List.mem_of_mem_take (List.mem_of_mem_drop hc)))
            rw [hl.out, List.length_drop, List.length_take] at h1
            have h2 : 10 ^ (min i t.data.toList.length - j) ≤ 10 ^ 9 := Nat.pow_le_pow_right (by decide) (by omega)
            rw [← lb_ten] at h2
            exact Nat.lt_of_lt_of_le h1 h2
          have hnx : Hid (((dV ((t.data.toList.take (i + 1)).drop j) : Nat) : Int) = (l : Int) * 10 + (((t[i]'hlt).toNat : Int) - 48)) := Lib.hid (by
            have e : t.data.toList.take (i + 1) = t.data.toList.take i ++ [t[i]'hlt] := by
              rw [take_snoc _ _ (show i < t.data.toList.length from hlt)]; rfl
            rw [e, List.drop_append_of_le_length (by rw [List.length_take]; have : t.data.toList.length = t.size := rfl; omega), dV_snoc, hl.out]
            omega)
          have hcl := Lib.hid hc
          clear hc hl
          go_wp2
          go_round
          case rel => exact ⟨i + 1, dV ((t.data.toList.take (i + 1)).drop j), by omega, by omega, by go_num, congrArg (Value.int .u64) hnx.out.symm, Lib.hid rfl⟩
          case measure => (simp [intOf] <;> omega)
        · obtain rfl : i = t.size := by omega
          have hl2 : Hid (dV (t.data.toList.drop j) = l) := Lib.hid (by
            have := hl.out
            rwa [List.take_of_length_le (show t.data.toList.length ≤ t.size from Nat.le_refl _)] at this)
          rw [hl2.out] at HR2
          have hin := Lib.hid hS.out.inv
          have hon := Lib.hid hS.out.own
          clear hl hS
          go_wp2_with (at_builtin; (refine wpList_app1F (α := Nat) rfl _ _ 201 rfl slNat hin.out ao co _ hon.out _ _ l rfl rfl 1 rfl (by omega) ?_; intro a8 c8 w8 hi8 ho8 hg8 hf8))
          have hx1 := (ext_take t hj1).1
          have hx2 := (ext_take t hj1).2
          obtain ⟨t', ht'⟩ : ∃ t', t.extract 0 j = t' := ⟨_, rfl⟩
          rw [ht'] at hx1 hx2 ⊢
          have htt2 : Hid (t'.data.toList = s.data.toList.take t'.size) := Lib.hid (by rw [hx1, hx2, htt.out, List.take_take, Nat.min_eq_left hj1])
          have hR3 : Hid (RdI s.data.toList (os ++ [l]) t'.size) := Lib.hid (by rw [hx2]; exact HR2.out)
          have hs1 : t'.size ≤ s.size := by omega
          have hs2 : 9 * (os.length + 1) ≤ s.size + 9 := by omega
          have hs4 : 0 < t'.size → 9 * (os.length + 1) + t'.size ≤ s.size := by omega
          have hs3 : t'.size < t.size := by omega
          clear hx1 hx2 HR2
          go_roundw
          case rel => exact ⟨t', os ++ [l], a8, c8, rfl, by simp, hs1, by rw [List.length_append]; exact hs4, by rw [List.length_append]; exact hs2, htt2, hR3, Lib.hid ⟨hi8, ho8⟩⟩
          case measure => exact hs3
    · have h0 : t.size = 0 := by omega
      rw [h0] at hR
      have hdn : Hid (LV os = v) := Lib.hid (by rw [hR.out.done, hv.out])
      have hL := Lib.hid hR.out.lim
      obtain ⟨φ', _, hi', hs', _⟩ := hS.out.own.release hS.out.inv
      have HS' := Lib.hid hs'
      have HI' := Lib.hid hi'
      obtain ⟨n, hn⟩ : ∃ n, os.length = n := ⟨_, rfl⟩
      rw [hn] at hol ⊢
      have HN := Lib.hid hn
      obtain ⟨q, hq⟩ : ∃ q, Hid ((limbs (LV os)).length = q) := ⟨_, Lib.hid rfl⟩
      clear hR hS hi' hs' htt h0 hn
      go_wp2_with (go_at_call 222; refine (trim_any HI'.out.fz HS'.out HN (by omega) hL hq).mono ?_; rintro e w' ⟨rfl, rfl⟩)
      go_ret
      refine ⟨ao, co, φ', ?_, HI'.out, HS'.out.trim hL.out hdn.out⟩
      rw [← hdn.out, hq.out]; rfl
end Go.Proofs.YtnlhalnjbkpdnaaGreatDoor
