/- The walk of CodeDistancesAreDistances. Conditions: those that the claim form gives. -/
import Derived.Test.YthnmglckhfajeaaK8
namespace Go.Proofs.Ythnmglckhfajeaa
open Go.RowKit
set_option linter.unusedVariables false

theorem codedF_two {l : List Nod} {x y : Int} : codedF l [x, y] = if treeF l ≠ 0 then treeF l else if (ix l x).isSome = true ∧ (ix l y).isSome = true then 0 else 5 := by
  unfold codedF
  congr 1
  simp only [List.length_cons, List.length_nil, scan, miss5]
  cases h1 : (ix l x).isSome <;> cases h2 : (ix l y).isSome <;> simp [h1, h2]
theorem codedF_zero {l : List Nod} {x y : Int} (h : codedF l [x, y] = 0) : treeF l = 0 ∧ (ix l x).isSome = true ∧ (ix l y).isSome = true := by
  rw [codedF_two] at h
  split at h
  · next h1 => exact absurd h h1
  · next h1 =>
    split at h
    · next h2 => exact ⟨by simpa using h1, h2⟩
    · cases h
theorem treeF_zero {l : List Nod} (h : treeF l = 0) : TrOk l l.length := by
  unfold treeF at h
  split at h
  · next a => exact absurd h a
  · next a =>
    split at h
    · cases h
    · next b =>
      split at h
      · cases h
      · next c =>
        split at h
        · cases h
        · next d =>
          have a' : nodesF l = 0 := by simpa using a
          have b' : scan (par5 l) l.length = 0 := by simpa using b
          have c' : scan (cyc18 l) l.length = 0 := by simpa using c
          have d' : scan (deep2 l) l.length = 0 := by simpa using d
          exact tr_of (par_of (nodesF_zero a') (scan_all _ b')) (scan_all _ c') (scan_all _ d')
theorem code_lv {l : List Nod} {n : Nat} (h : TrOk l n) {c : Int} (hc : (ix l c).isSome = true) : (∃ m, lvA l n c = some m ∧ m ≤ 8) ∧ c ≠ 0 := by
  refine ⟨h.lv (.inr hc), ?_⟩
  obtain ⟨i, hi, he, _⟩ := h.up hc
  have := (h.rng i hi).1
  omega
theorem dist_bound {l : List Nod} {n : Nat} (h : TrOk l n) {a b : Int} (ha : (ix l a).isSome = true) (hb : (ix l b).isSome = true) : 0 ≤ distOf l a b ∧ distOf l a b ≤ 16 := by
  obtain ⟨⟨ma, h1, h2⟩, _⟩ := code_lv h ha
  obtain ⟨⟨mb, h3, h4⟩, _⟩ := code_lv h hb
  have hle := meet_le h.len h1 h3
  have e1 := (upL_eq h.len h1).2
  have e2 := (upL_eq h.len h3).2
  unfold distOf; omega
theorem meetF_comm (l : List Nod) (a b : Int) : meetF l a b = meetF l b a := by
  have hc : codedF l [a, b] = codedF l [b, a] := by rw [codedF_two, codedF_two]; simp only [and_comm]
  unfold meetF
  rw [← hc]
  by_cases h : codedF l [a, b] = 0
  · rw [if_neg (by simp [h]), if_neg (by simp [h])]
    obtain ⟨h1, h2, h3⟩ := codedF_zero h
    have ht := treeF_zero h1
    obtain ⟨⟨ma, q1, _⟩, _⟩ := code_lv ht h2
    obtain ⟨⟨mb, q2, _⟩, _⟩ := code_lv ht h3
    rw [meet_comm ht.len q1 q2, dist_comm ht.len q1 q2]
  · rw [if_pos h, if_pos h]
theorem dist_law (l : List Nod) (a b c : Int) (h : (meetF l a b).2.2 = 0) :
    (meetF l b c).2.2 = (meetF l a c).2.2 ∧ ((meetF l b c).2.2 = 0 → ((meetF l a b).2.1 = 0 ↔ a = b) ∧ (meetF l a c).2.1 ≤ (meetF l a b).2.1 + (meetF l b c).2.1 ∧ 0 ≤ (meetF l a b).2.1 ∧ (meetF l a b).2.1 ≤ 16 ∧ 0 ≤ (meetF l b c).2.1 ∧ (meetF l b c).2.1 ≤ 16) := by
  have third : ∀ x y, (meetF l x y).2.2 = codedF l [x, y] := fun x y => by
    unfold meetF; by_cases h : codedF l [x, y] = 0
    · rw [if_neg (by simp [h]), h]
    · rw [if_pos h]
  have second : ∀ x y, codedF l [x, y] = 0 → (meetF l x y).2.1 = distOf l x y := fun x y h => by unfold meetF; rw [if_neg (by simp [h])]
  have hz : codedF l [a, b] = 0 := by rw [← third]; exact h
  obtain ⟨h1, ha, hb⟩ := codedF_zero hz
  have e : codedF l [b, c] = codedF l [a, c] := by rw [codedF_two, codedF_two, ha, hb]
  rw [third, third]
  refine ⟨e, fun h0 => ?_⟩
  obtain ⟨_, _, hc⟩ := codedF_zero h0
  rw [second _ _ hz, second _ _ h0, second _ _ (e ▸ h0)]
  have ht := treeF_zero h1
  obtain ⟨⟨ma, q1, _⟩, n1⟩ := code_lv ht ha
  obtain ⟨⟨mb, q2, _⟩, n2⟩ := code_lv ht hb
  obtain ⟨⟨mc, q3, _⟩, n3⟩ := code_lv ht hc
  have b1 := dist_bound ht ha hb
  have b2 := dist_bound ht hb hc
  exact ⟨dist_zero ht.len q1 q2 n1, dist_tri ht.len q1 q2 q3, b1.1, b1.2, b2.1, b2.2⟩

theorem rNode (H : Type) (enc : TypeId × Value → H) (W : World) : Reads enc Try.prog W 22 (List Nod) (fun xs => xs.length * Try.prog.bytesOf 68 ≤ reachBytes ∧ ∀ x ∈ xs, IsI64 x.1 ∧ IsI64 x.2.1 ∧ StrG x.2.2) :=
  Reads.slice Try.underlying22 (by kernel_rfl) (by decide) (Reads.struct3 (s1 := 1) (s2 := 1) (s3 := 1) Try.underlying68 (by kernel_rfl) (by kernel_rfl) (by kernel_rfl) (by kernel_rfl) (by kernel_rfl) (by kernel_rfl) (by kernel_rfl) (rInt H enc W) (rInt H enc W) (rStr H enc W))
theorem nodes_len {l : List Nod} (h : l.length * Try.prog.bytesOf 68 ≤ reachBytes) : l.length ≤ 9223372036854775807 := by
  have hb : Try.prog.bytesOf 68 = 32 := by kernel_rfl
  rw [hb] at h; unfold reachBytes at h; omega

set_option maxRecDepth 100000 in
set_option maxHeartbeats 1000000 in
theorem dist_core {w : World} {ad : Option Addr} {cp n : Nat} {l : List Nod} {φ : Phi} (hφ : Fz φ w) (s : SlV φ ad cp l) (hn : Hid (l.length = n)) (hm : n ≤ 9223372036854775807) (a b c : Int) :
    Calls Try.prog 3 #[.slice ad n cp, .int .i64 a, .int .i64 b, .int .i64 c] w fun e w' => e = .returned (.bool true) ∧ Below w.heap.size w w' := by
  obtain ⟨r1, hr1⟩ : ∃ r, Hid (meetF l a b = r) := ⟨_, Lib.hid rfl⟩
  obtain ⟨r3, hr3⟩ : ∃ r, Hid (meetF l b c = r) := ⟨_, Lib.hid rfl⟩
  obtain ⟨r4, hr4⟩ : ∃ r, Hid (meetF l a c = r) := ⟨_, Lib.hid rfl⟩
  have hr2 : Hid (meetF l b a = r1) := Lib.hid (by rw [meetF_comm]; exact hr1.out)
  have law := Lib.hid (dist_law l a b c)
  rw [hr1.out, hr3.out, hr4.out] at law
  obtain ⟨m1, d1, q1⟩ := r1
  obtain ⟨m3, d3, q3⟩ := r3
  obtain ⟨m4, d4, q4⟩ := r4
  go_enter Try.func3, Try.ntmps3
  go_wp2_with fail
  refine (Meeting_any hφ s hn hm a b).mono ?_
  rintro e w1 ⟨rfl, hb⟩
  have B1 := Lib.hid hb
  rw [hr1.out]
  unfold tup3
  clear hb
  go_wp2_with fail
  refine (Meeting_any (hφ.below B1.out) s hn hm b a).mono ?_
  rintro e w2 ⟨rfl, hb⟩
  have B2 := Lib.hid (B1.out.trans (hb.mono B1.out.size))
  rw [hr2.out]
  unfold tup3
  clear hb
  have f1 : (q1 != q1) = false := by simp
  have f2 : (m1 != m1) = false := by simp
  have f3 : (d1 != d1) = false := by simp
  by_cases h0 : q1 = 0
  · have g : ((q1 : Int) != 0) = false := by simp [h0]
    have L := Lib.hid (law.out h0)
    clear law h0
    go_wp2_with fail
    refine (Meeting_any (hφ.below B2.out) s hn hm b c).mono ?_
    rintro e w3 ⟨rfl, hb⟩
    have B3 := Lib.hid (B2.out.trans (hb.mono B2.out.size))
    rw [hr3.out]
    unfold tup3
    clear hb
    go_wp2_with fail
    refine (Meeting_any (hφ.below B3.out) s hn hm a c).mono ?_
    rintro e w4 ⟨rfl, hb⟩
    have B4 := Lib.hid (B3.out.trans (hb.mono B3.out.size))
    rw [hr4.out]
    unfold tup3
    clear hb
    have hqq : q3 = q4 := L.out.1
    subst hqq
    by_cases h3 : q3 = 0
    · have g3 : ((q3 : Int) != 0) = false := by simp [h3]
      obtain ⟨e1, e2, e3, e4, e5, e6⟩ := L.out.2 h3
      have g4 : ((d1 == 0) == (a == b)) = true := by
        by_cases hab : a = b
        · simp [hab, e1.2 hab]
        · have hd : d1 ≠ 0 := fun h => hab (e1.1 h)
          have x1 : (d1 == 0) = false := by simpa using hd
          have x2 : (a == b) = false := by simpa using hab
          rw [x1, x2]; rfl
      have hw : IntKind.i64.wrap (d1 + d3) = d1 + d3 := IntWalk.i64_in _ (by omega)
      have g5 : decide (d4 ≤ d1 + d3) = true := decide_eq_true e2
      clear h3 e1 e2 e3 e4 e5 e6 L
      go_wp2
      go_ret
      exact ⟨rfl, B4.out⟩
    · have g3 : ((q3 : Int) != 0) = true := by simp [h3]
      have g4 : ((q3 : Int) == q3) = true := by simp
      clear h3 L
      go_wp2
      go_ret
      exact ⟨rfl, B4.out⟩
  · have g : ((q1 : Int) != 0) = true := by simp [h0]
    clear law h0
    go_wp2
    go_ret
    exact ⟨rfl, B2.out⟩
theorem codeDistancesAreDistances_walk (w : World) (φ : Phi) (hφ : Fz φ w) (ad : Option Addr) (cp : Nat) (l : List Nod) (s : SlV φ ad cp l) (g : l.length * Try.prog.bytesOf 68 ≤ reachBytes ∧ ∀ x ∈ l, IsI64 x.1 ∧ IsI64 x.2.1 ∧ StrG x.2.2) (a : Int) (ga : IsI64 a) (b : Int) (gb : IsI64 b) (c : Int) (gc : IsI64 c) :
    Calls Try.prog 3 #[.slice ad l.length cp, .int .i64 a, .int .i64 b, .int .i64 c] w fun e w' => e = .returned (.bool true) ∧ Below w.heap.size w w' :=
  dist_core hφ s (Lib.hid rfl) (nodes_len g.1) a b c
end Go.Proofs.Ythnmglckhfajeaa
