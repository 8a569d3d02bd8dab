/- The law CodeAgreementIsSymmetric's walk. Conditions: the library's table of powers of ten reads as it was laid. -/
import Derived.Test.YtngogjookldidaaDoorCA
import Derived.Test.YtngogjookldidaaDoorKB
import Derived.Laws.StructEq
namespace Go.Proofs.YtngogjookldidaaDoor
open Go.RowKit
set_option linter.unusedVariables false
set_option linter.unusedSimpArgs false
theorem kapR_swap (L : List Pr) : kapR (L.map (fun p => (p.2, p.1))) = kapR L := by
  unfold kapR
  rw [List.length_map, chnc_swap, sameN_swap]
theorem kapF_swap (l : List Nod) (cs : List Cdg) (a b : Int) : kapF l cs b a = kapF l cs a b := by
  unfold kapF
  rw [bthF_swap, prsL_swap, kapR_swap]
theorem ratR_one : ratR (((1 : Int) : Rat) / ((1 : Int) : Rat)) = (⟨#[49]⟩, ⟨#[49]⟩, 0) := by
  rw [← rat_quot (by omega), ratR_eq (by omega)]
  kernel_rfl
theorem kapR_same {L : List Pr} (h : ∀ q ∈ L, q.1 = q.2) {S T : ByteArray} (hk : kapR L = (S, T, 0)) : S = ⟨#[49]⟩ ∧ T = ⟨#[49]⟩ := by
  have hs : sameN L = L.length := cntP_all h
  unfold kapR at hk
  by_cases h0 : L.length = 0
  · rw [if_pos h0] at hk
    have := congrArg (fun x => x.2.2) hk
    simp at this
  · rw [if_neg h0] at hk
    by_cases hc : chnc L = L.length * L.length
    · rw [if_pos hc, ratR_one] at hk
      cases hk; exact ⟨rfl, rfl⟩
    · rw [if_neg hc, hs] at hk
      have hle := chnc_le L
      have hne : (((L.length * L.length : Nat) : Int) - (chnc L : Int) : Int) ≠ 0 := by omega
      generalize (((L.length * L.length : Nat) : Int) - (chnc L : Int) : Int) = m at *
      have e : ((m : Int) : Rat) / ((m : Int) : Rat) = ((1 : Int) : Rat) / ((1 : Int) : Rat) := by
        have hm : ((m : Int) : Rat) ≠ 0 := by intro e; exact hne (by exact_mod_cast e)
        have h1 : ((1 : Int) : Rat) ≠ 0 := by decide
        rw [Rat.div_def, Rat.div_def, Rat.mul_inv_cancel _ hm, Rat.mul_inv_cancel _ h1]
      rw [e, ratR_one] at hk
      cases hk; exact ⟨rfl, rfl⟩
theorem prsL_same (gs : List (List Cdg)) (a : Int) : ∀ q ∈ prsL gs a a, q.1 = q.2 := by
  intro q hq
  unfold prsL at hq
  obtain ⟨hq, _⟩ := List.mem_filter.1 hq
  obtain ⟨g, _, rfl⟩ := List.mem_map.1 hq
  rfl
theorem kapF_same {l : List Nod} {cs : List Cdg} {a : Int} {S T : ByteArray} (hk : kapF l cs a a = (S, T, 0)) : S = ⟨#[49]⟩ ∧ T = ⟨#[49]⟩ := by
  unfold kapF at hk
  by_cases h0 : bthF l cs a a = 0
  · rw [if_neg (by simp [h0])] at hk
    exact kapR_same (prsL_same _ _) hk
  · rw [if_pos h0] at hk
    exact absurd (congrArg (fun x => x.2.2) hk) h0
theorem neqRC (w : World) (s t : ByteArray) : (binOp .neq 25 (.agg #[.string s, .string t]) (.agg #[.string s, .string t])).run Tryd.prog w = .ok (.bool false) w := by
  have hu := Tryd.underlying25
  rw [run_neq_struct, run_equalIn_agg w 9999 _ _ _ (by simp only [Program.fieldsOf, hu]) (by kernel_rfl)]
  simp only [Program.fieldsOf, hu]
  have hi := Tryd.underlying9
  simp [Op.eqFields, part, Program.cellsOf, run_equalIn_string w _ 9 _ _ hi, Result.andThen]
theorem eqRC (w : World) (s t : ByteArray) : (binOp .eql 25 (.agg #[.string s, .string t]) (.agg #[.string s, .string t])).run Tryd.prog w = .ok (.bool true) w := by
  have hu := Tryd.underlying25
  rw [run_eql_struct, run_equalIn_agg w 9999 _ _ _ (by simp only [Program.fieldsOf, hu]) (by kernel_rfl)]
  simp only [Program.fieldsOf, hu]
  have hi := Tryd.underlying9
  simp [Op.eqFields, part, Program.cellsOf, run_equalIn_string w _ 9 _ _ hi, Result.andThen]
set_option maxRecDepth 100000 in
set_option maxHeartbeats 2000000 in
theorem sym_core {w : World} {a : Option Addr} {c n : Nat} {l : List Nod} {φ : Phi} (hφ : Fz φ w) (hp : PowP φ) (s : SlV φ a c l) (hn : Hid (l.length = n)) (hm : n ≤ 9223372036854775807) {ac : Option Addr} {cc nc : Nat} {cs : List Cdg} (sc : SlV φ ac cc cs) (hnc : Hid (cs.length = nc)) (hmc : nc ≤ 9223372036854775807) (x y : Int) :
    Calls Tryd.prog 3 #[.slice a n c, .slice ac nc cc, .int .i64 x, .int .i64 y] w fun e w' => e = .returned (.bool true) ∧ Below w.heap.size w w' := by
  have HF := Lib.hid hφ
  obtain ⟨K, hK⟩ : ∃ K, Hid (kapF l cs x y = K) := ⟨_, Lib.hid rfl⟩
  obtain ⟨S, T, F⟩ := K
  have hK2 : Hid (kapF l cs y x = (S, T, F)) := Lib.hid (by rw [kapF_swap, hK.out])
  obtain ⟨K, hK3⟩ : ∃ K, Hid (kapF l cs x x = K) := ⟨_, Lib.hid rfl⟩
  obtain ⟨S3, T3, F3⟩ := K
  have h1 := neqRC
  have h2 := eqRC
  clear hφ
  go_enter Tryd.func3, Tryd.ntmps3
  go_wp2_with fail
  refine (Kappa_any HF.out hp s hn hm sc hnc hmc x y hK).mono ?_
  rintro e w1 ⟨rfl, hb1⟩
  have B1 := Lib.hid hb1
  have B2 := Lib.hid (B1.out.alloc B1.out.size (.cells #[.string S, .string T] 25))
  have K1 := Lib.hid (Blk.new w1 #[.string S, .string T] 25)
  clear hb1
  go_wp2_with fail
  refine (Kappa_any (HF.out.below B2.out) hp s hn hm sc hnc hmc y x hK2).mono ?_
  rintro e w2 ⟨rfl, hb2⟩
  have B3 := Lib.hid (B2.out.trans (hb2.mono B2.out.size))
  have K2 := Lib.hid (K1.out.callB hb2)
  have B4 := Lib.hid (B3.out.alloc B3.out.size (.cells #[.string S, .string T] 25))
  have K3 := Lib.hid (K2.out.alloc (.cells #[.string S, .string T] 25))
  have K4 := Lib.hid (Blk.new w2 #[.string S, .string T] 25)
  clear hb2
  have c0 : (w2.alloc (.cells #[.string S, .string T] 25)).cell? ⟨w1.heap.size, 0, none⟩ = some (.string S) := K3.out.cell 0
  have c1 : (w2.alloc (.cells #[.string S, .string T] 25)).cell? ⟨w1.heap.size, 1, none⟩ = some (.string T) := K3.out.cell 1
  have hf : ((F : Int) != F) = false := by simp
  go_wp2_with fail
  refine (Kappa_any (HF.out.below B4.out) hp s hn hm sc hnc hmc x x hK3).mono ?_
  rintro e w3 ⟨rfl, hb3⟩
  have B5 := Lib.hid (B4.out.trans (hb3.mono B4.out.size))
  have B6 := Lib.hid (B5.out.alloc B5.out.size (.cells #[.string S3, .string T3] 25))
  clear hb3 c0 c1 hf h1
  by_cases h0 : F3 = 0
  · subst h0
    obtain ⟨rfl, rfl⟩ := kapF_same hK3.out
    go_wp2
    go_ret
    exact ⟨rfl, B6.out⟩
  · have hg : ((F3 : Int) != 0) = true := by simp [h0]
    clear h0
    go_wp2
    go_ret
    exact ⟨rfl, B6.out⟩
theorem rCdgC (H : Type) (enc : TypeId × Value → H) (W : World) : Reads enc Tryd.prog W 23 (List Cdg) (fun xs => xs.length * Tryd.prog.bytesOf 45 ≤ reachBytes ∧ ∀ x ∈ xs, IsI64 x.1 ∧ IsI64 x.2.1 ∧ IsI64 x.2.2) :=
  Reads.slice Tryd.underlying23 (by kernel_rfl) (by decide) (Reads.struct3 (s1 := 1) (s2 := 1) (s3 := 1) Tryd.underlying45 (by kernel_rfl) (by kernel_rfl) (by kernel_rfl) (by kernel_rfl) (by kernel_rfl) (by kernel_rfl) (by kernel_rfl) (rInt H enc W) (rInt H enc W) (rInt H enc W))
theorem cdgs_lenC {l : List Cdg} (h : l.length * Tryd.prog.bytesOf 45 ≤ reachBytes) : l.length ≤ 9223372036854775807 := by
  have hb : Tryd.prog.bytesOf 45 = 24 := by kernel_rfl
  rw [hb] at h; unfold reachBytes at h; omega
theorem codeAgreementIsSymmetric_walk (w : World) (φ : Phi) (hφ : Fz φ w) (hp : PowP φ) (ad : Option Addr) (cp : Nat) (l : List Nod) (s : SlV φ ad cp l) (g : l.length * Tryd.prog.bytesOf 62 ≤ reachBytes ∧ ∀ x ∈ l, IsI64 x.1 ∧ IsI64 x.2.1 ∧ StrG x.2.2)
    (ac : Option Addr) (cc : Nat) (cs : List Cdg) (sc : SlV φ ac cc cs) (gc : cs.length * Tryd.prog.bytesOf 45 ≤ reachBytes ∧ ∀ x ∈ cs, IsI64 x.1 ∧ IsI64 x.2.1 ∧ IsI64 x.2.2) (a : Int) (ga : IsI64 a) (b : Int) (gb : IsI64 b) :
    Calls Tryd.prog 3 #[.slice ad l.length cp, .slice ac cs.length cc, .int .i64 a, .int .i64 b] w fun e w' => e = .returned (.bool true) ∧ Below w.heap.size w w' :=
  sym_core hφ hp s (Lib.hid rfl) (nodes_len g.1) sc (Lib.hid rfl) (cdgs_lenC gc.1) a b
end Go.Proofs.YtngogjookldidaaDoor
