/- The plain law of ratios' texts: what Ratio writes is a ratio, and reads as the number. The plain law: behind Respond each class has its sum. The walk of sound, where all ratios are right. Conditions: the library's table of powers of ten reads as it was laid. Conditions: none beyond what the claim form gives. -/
import Derived.Test.YtmlpjffnmkndoaaGreatDoorJZ
import Derived.Test.YtmlpjffnmkndoaaGreatDoorPC
import Derived.Test.YtmlpjffnmkndoaaGreatDoorJB
import Derived.Test.YtmlpjffnmkndoaaGreatDoorB22
namespace Go.Proofs.YtmlpjffnmkndoaaGreatDoor
open Go.RowKit
set_option linter.unusedVariables false
set_option linter.unusedSimpArgs false
theorem dg_D {u : Nat} (h : u < 10) : isD (dg u) ∧ (dg u).toNat - 48 = u := by
 have : u = 0 ∨ u = 1 ∨ u = 2 ∨ u = 3 ∨ u = 4 ∨ u = 5 ∨ u = 6 ∨ u = 7 ∨ u = 8 ∨ u = 9 := by omega
 rcases this with rfl | rfl | rfl | rfl | rfl | rfl | rfl | rfl | rfl | rfl <;> exact ⟨⟨by decide, by decide⟩, by decide⟩
theorem dec_D (u : Nat) : ∀ c ∈ Lib.decDigits u, isD c := by
  induction u using Nat.strongRecOn with
  | ind u ih =>
    intro c hc
    by_cases h : u < 10
    · rw [dec_lt h] at hc
      simp at hc
      rw [hc]; exact (dg_D h).1
    · rw [dec_ge h] at hc
      rcases List.mem_append.1 hc with hc | hc
      · exact ih (u / 10) (by omega) c hc
      · simp at hc
        rw [hc]; exact (dg_D (Nat.mod_lt _ (by decide))).1
theorem dec_V (u : Nat) : dV (Lib.decDigits u) = u := by
  induction u using Nat.strongRecOn with
  | ind u ih =>
    by_cases h : u < 10
    · rw [dec_lt h, ← List.nil_append [dg u], dV_snoc, dV_nil, (dg_D h).2]; omega
    · rw [dec_ge h, dV_snoc, ih (u / 10) (by omega), (dg_D (Nat.mod_lt _ (by decide))).2]; omega
theorem dec_h0 (u : Nat) (h0 : u ≠ 0) : (Lib.decDigits u).getD 0 0 ≠ 48 := by
  induction u using Nat.strongRecOn with
  | ind u ih =>
    by_cases h : u < 10
    · rw [dec_lt h]
      have := dg_ne h0 h
      simpa using this
    · rw [dec_ge h]
      have h1 := ih (u / 10) (by omega) (by omega)
      have h2 := dec_ne (u / 10)
      cases hd : Lib.decDigits (u / 10) with
      | nil => exact absurd hd h2
      | cons c cs => rw [hd] at h1; simpa using h1
theorem decB_list (u : Nat) : (decB u).data.toList = Lib.decDigits u := by unfold decB; simp
theorem numP_dec (u : Nat) : numP (decB u) := by
 refine ⟨?_, ?_, ?_⟩
 ·intro e
  have h := dec_ne u
  have : (decB u).data.toList.length = 0 := by rw [Array.length_toList]; exact e
  rw [decB_list] at this
  exact h (List.eq_nil_of_length_eq_zero this)
 ·intro c hc
  rw [decB_list] at hc
  exact dec_D u c hc
 ·rw [decB_list]
  by_cases h : u = 0
  ·right; subst h; rw [dec_lt (by decide)]; rfl
  ·left; exact dec_h0 u h
theorem dec_pre (u : Nat) : Lib.hasPrefix (Lib.decDigits u) [45] = false := by
  have h := dec_D u
  cases hd : Lib.decDigits u with
  | nil => rfl
  | cons c cs =>
    have hc := h c (by rw [hd]; simp)
    have : (45 == c) = false := by
      rw [beq_eq_false_iff_ne]
      intro e
      rw [← e] at hc
      exact absurd hc.1 (by decide)
    unfold Lib.hasPrefix
    simp [List.isPrefixOf, this]
theorem negB_dec (u : Nat) : negB (decB u) = false := by unfold negB; rw [decB_list, dec_pre]
theorem bodyB_dec (u : Nat) : bodyB (decB u) = decB u := by unfold bodyB Lib.trimPrefix; rw [decB_list, dec_pre, if_neg (by simp)]; rfl
theorem min_list (u : Nat) : ((⟨#[45]⟩ : ByteArray) ++ decB u).data.toList = 45 :: Lib.decDigits u := by
 rw [ByteArray.data_append]
 simp [decB_list]
theorem negB_min (u : Nat) : negB (⟨#[45]⟩ ++ decB u) = true := by unfold negB; rw [min_list]; unfold Lib.hasPrefix; simp [List.isPrefixOf]
theorem bodyB_min (u : Nat) : bodyB (⟨#[45]⟩ ++ decB u) = decB u := by
 have h : Lib.hasPrefix (45 :: Lib.decDigits u) [45] = true := by unfold Lib.hasPrefix; simp [List.isPrefixOf]
 unfold bodyB Lib.trimPrefix
 rw [min_list, if_pos h]; rfl
theorem ratR_back {x : Rat} {S T : ByteArray} (h : ratR x = (S, T, 0)) : ratF S T = 0 ∧ ratX S T = x := by
 unfold ratR at h
 split at h
 ·injection h with h1 h2; injection h2 with h2 h3; exact absurd h3 (by decide)
 ·next hs =>
  injection h with h1 h2
  injection h2 with h2 h3
  have hd0 : Lib.decDigits x.den ≠ [48] := by
   intro e
   have := dec_V x.den
   rw [e] at this
   have h4 : dV [48] = 0 := by decide
   rw [h4] at this
   exact x.den_nz this.symm
  have hg : Nat.gcd x.num.natAbs x.den = 1 := x.reduced
  by_cases hn : x.num < 0
  ·rw [if_pos hn] at h1
   subst h1 h2
   have hn0 : Lib.decDigits x.num.natAbs ≠ [48] := by
    intro e
    have := dec_V x.num.natAbs
    rw [e] at this
    have h4 : dV [48] = 0 := by decide
    rw [h4] at this
    omega
   refine ⟨ratF_zero ?_ ⟨?_, numP_dec _, ?_, ?_⟩ ?_, ?_⟩
   ·rw [bodyB_min]; omega
   ·rw [bodyB_min]; exact numP_dec _
   ·rw [decB_list]; exact hd0
   ·rw [bodyB_min, decB_list]; exact fun e => hn0 e.2
   ·rw [bodyB_min, decB_list, decB_list, dec_V, dec_V]; exact hg
   ·unfold ratX
    rw [negB_min, bodyB_min, decB_list, decB_list, dec_V, dec_V]
    unfold rat sgn
    rw [if_pos rfl, show -((x.num.natAbs : Int)) = x.num by omega, Rat.mkRat_self]
  ·rw [if_neg hn] at h1
   subst h1 h2
   refine ⟨ratF_zero ?_ ⟨?_, numP_dec _, ?_, ?_⟩ ?_, ?_⟩
   ·rw [bodyB_dec]; omega
   ·rw [bodyB_dec]; exact numP_dec _
   ·rw [decB_list]; exact hd0
   ·rw [negB_dec]; exact fun e => absurd e.1 (by decide)
   ·rw [bodyB_dec, decB_list, decB_list, dec_V, dec_V]; exact hg
   ·unfold ratX
    rw [negB_dec, bodyB_dec, decB_list, decB_list, dec_V, dec_V]
    unfold rat sgn
    rw [if_neg (by decide), show ((x.num.natAbs : Int)) = x.num by omega, Rat.mkRat_self]
/-- The texts of exact numbers, read again. -/
theorem shtR_back {xs : List Rat} {L : List Rti} (h : shtR xs = (L, 0)) : L.length = xs.length ∧ ∀ k, k < xs.length → ratF (L.getD k rti0).1 (L.getD k rti0).2 = 0 ∧ ratX (L.getD k rti0).1 (L.getD k rti0).2 = xs.getD k 0 := by
 unfold shtR at h
 split at h
 ·next hz =>
  injection h with h1 h2
  subst h1
  refine ⟨by rw [List.length_map], fun k hk => ?_⟩
  have h3 : shtF (xs.getD k 0) = 0 := scan_all _ hz k hk
  have e : (xs.map shtT).getD k rti0 = shtT (xs.getD k 0) := by simp [List.getD_eq_getElem?_getD, List.getElem?_map, hk]
  rw [e]
  unfold shtT
  unfold shtF at h3
  exact ratR_back (by rw [← h3])
 ·next hne => injection h with h1 h2; exact absurd h2 hne
end Go.Proofs.YtmlpjffnmkndoaaGreatDoor

namespace Go.Proofs.YtmlpjffnmkndoaaGreatDoor
open Go.RowKit
set_option linter.unusedVariables false
set_option linter.unusedSimpArgs false
section
variable {l : List Psn} {an : List Bool}
end
end Go.Proofs.YtmlpjffnmkndoaaGreatDoor

namespace Go.Proofs.YtmlpjffnmkndoaaGreatDoor
open Go.RowKit
set_option linter.unusedVariables false
set_option linter.unusedSimpArgs false
theorem body_size (s : ByteArray) : s.size ≤ (bodyB s).size + 1 := by
 have h : (bodyB s).size = (Lib.trimPrefix s.data.toList [45]).length := by unfold bodyB; simp [ByteArray.size]
 have h2 : s.size = s.data.toList.length := by rw [Array.length_toList]; rfl
 rw [h, h2]
 unfold Lib.trimPrefix
 split
 ·rw [List.length_drop]; simp; omega
 ·omega
theorem rat_size {n d : ByteArray} (h : ratF n d = 0) : n.size ≤ 9223372036854775807 ∧ d.size ≤ 9223372036854775807 := by
 have hk := ratF_ok h
 have h1 := hk.s1
 have h2 := hk.s2
 have h3 := body_size n
 exact ⟨by omega, by omega⟩
set_option maxHeartbeats 1000000 in
theorem sound1_any {M : Nat} (hM : LenB M) (hM2 : p10 2000 ≤ M) {s t : ByteArray} (hf : Hid (ratF s t = 0)) {w : World} {φ : Phi} (hφ : Fz φ w) (hp : PowP φ) :
  Calls Tryz.prog 36 #[.agg #[.string s, .string t]] w (fun e w' => e = .returned (.bool false) ∧ Below w.heap.size w w') := by
 obtain ⟨hs, ht⟩ := rat_size hf.out
 have HI := Lib.hid ((Inv.start hφ).alloc (.cells #[.string s, .string t] 32))
 have HP := Lib.hid hp
 have KB := Blk.new w #[.string s, .string t] 32
 have x0 : (w.alloc (.cells #[.string s, .string t] 32)).cell? ⟨w.heap.size, 0, none⟩ = some (.string s) := KB.cell 0
 have x1 : (w.alloc (.cells #[.string s, .string t] 32)).cell? ⟨w.heap.size, 1, none⟩ = some (.string t) := KB.cell 1
 clear hφ hp KB
 go_enter Tryz.func36, Tryz.ntmps36
 go_wp2_with (go_at_call 14; (with_reducible refine (RCheckRatio_any hM hM2 hs ht hf HI.out.fz HP.out).mono ?_); rintro e w2 ⟨rfl, hb2⟩; have I2 := Lib.hid (HI.out.callB hb2); clear hb2)
 go_ret
 exact ⟨rfl, I2.out.bel⟩
set_option maxHeartbeats 1000000 in
theorem IndexFunc_R {M : Nat} (hM : LenB M) (hM2 : p10 2000 ≤ M) {n : Nat} {a : Option Addr} {cap : Nat} {L : List Rti} {w : World} {φ : Phi} (hφ : Fz φ w) (hp : PowP φ) (sl : SlV φ a cap L) (hn : Hid (L.length = n)) (hL : Hid (∀ k, k < n → ratF (L.getD k rti0).1 (L.getD k rti0).2 = 0)) :
  Calls Tryz.prog 79 #[.slice a n cap, .func (.func 36) #[] #[]] w (fun e w' => e = .returned (.int .i64 (-1)) ∧ Below w.heap.size w w') := by
 have HP := Lib.hid hp
 have HF := Lib.hid hφ
 have hnl : n ≤ 9223372036854775807 := by have := sl.capn; have := sl.capm; rw [hn.out] at *; unfold maxLen at *; omega
 clear hφ hp
 go_enter Tryz.func79, Tryz.ntmps79
 go_wp2
 go_loopw [8] (fun i wr => ∃ k : Nat, k ≤ n ∧ i = .int .i64 k ∧ Hid (Below w.heap.size w wr)) (fun i _ => n - (intOf i).toNat)
 case atStart => exact ⟨0, Nat.zero_le _, rfl, Lib.hid (Below.refl _ _)⟩
 case round =>
  obtain ⟨k, hk, rfl, hB⟩ := hrel
  by_cases hlt : k < n
  ·have hlti : (k : Int) < (n : Int) := by omega
   obtain ⟨b, off, rfl, f⟩ := sl.rtisD hn hlt
   obtain ⟨d0, d1⟩ := f k hlt wr (HF.out.below hB.out)
   have hr := Lib.hid (hL.out k hlt)
   generalize (L.getD k rti0).1 = s at *
   generalize (L.getD k rti0).2 = t at *
   clear f
   go_wp2_with (go_at_call 36; (with_reducible refine (sound1_any hM hM2 hr (HF.out.below hB.out) HP.out).mono ?_); rintro e w2 ⟨rfl, hb2⟩; have hB2 := Lib.hid (hB.out.trans (hb2.mono hB.out.size)); clear hb2)
   go_roundw
   case rel => exact ⟨k + 1, by omega, by go_num, hB2⟩
   case measure => (simp [intOf] <;> omega)
  ·obtain rfl : k = n := by omega
   go_wp2
   go_ret
   exact ⟨rfl, hB.out⟩
set_option maxHeartbeats 1000000 in
theorem sound_any {M : Nat} (hM : LenB M) (hM2 : p10 2000 ≤ M) {n : Nat} {a : Option Addr} {cap : Nat} {L : List Rti} {w : World} {φ : Phi} (hφ : Fz φ w) (hp : PowP φ) (sl : SlV φ a cap L) (hn : Hid (L.length = n)) (hL : Hid (∀ k, k < n → ratF (L.getD k rti0).1 (L.getD k rti0).2 = 0)) :
  Calls Tryz.prog 9 #[.slice a n cap] w (fun e w' => e = .returned (.bool true) ∧ Below w.heap.size w w') := by
 have HC : Hid (Calls Tryz.prog 35 #[.slice a n cap, .func (.func 36) #[] #[]] w (fun e w' => e = .returned (.bool false) ∧ Below w.heap.size w w')) := Lib.hid (by
  have HI := Lib.hid (IndexFunc_R hM hM2 hφ hp sl hn hL)
  clear hφ hp sl hL hM hM2
  go_enter Tryz.func35, Tryz.ntmps35
  go_wp2_with (go_at_call 79; (with_reducible refine HI.out.mono ?_); rintro e w2 ⟨rfl, hb2⟩; have B2 := Lib.hid hb2; clear hb2)
  go_ret
  exact ⟨rfl, B2.out⟩)
 clear hφ hp sl hL hM hM2
 go_enter Tryz.func9, Tryz.ntmps9
 go_wp2_with (go_at_call 35; (with_reducible refine HC.out.mono ?_); rintro e w2 ⟨rfl, hb2⟩; have B2 := Lib.hid hb2; clear hb2)
 go_ret
 exact ⟨rfl, B2.out⟩
end Go.Proofs.YtmlpjffnmkndoaaGreatDoor
