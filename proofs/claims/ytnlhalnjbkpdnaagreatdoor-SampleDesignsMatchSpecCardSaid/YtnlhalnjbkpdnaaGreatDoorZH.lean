/- Chances of units: the plain law; first places. The walks of slices.IndexFunc with the closures that look for a stratum, a cluster, a unit; of layer and cluster. Fractions and their products, the program's side. Conditions: whole numbers of no more than 14 digits; the library's table of powers of ten reads as it was laid. The walk of chance, the program's side. Conditions: the plan fits; the library's table of powers of ten reads as it was laid. The walk of Chances, the program's side. Conditions: the library's tables of blanks and of powers of ten read as they were laid; texts of a length that a form reaches. Conditions: none beyond what the claim form gives. -/
import Derived.Test.YtnlhalnjbkpdnaaGreatDoorZG
import Derived.Test.YtnlhalnjbkpdnaaGreatDoorJD
import Derived.Test.YtnlhalnjbkpdnaaGreatDoorPB
import Derived.Test.YtnlhalnjbkpdnaaGreatDoorCE
namespace Go.Proofs.YtnlhalnjbkpdnaaGreatDoor
open Go.RowKit Go.Sort
set_option linter.unusedVariables false
set_option linter.unusedSimpArgs false
/-- v is the first place below n where p holds, or -1. -/
def Fnd (p : Nat → Prop) (n : Nat) (v : Int) : Prop := (v = -1 ∧ ∀ i, i < n → ¬ p i) ∨ ∃ k : Nat, v = k ∧ k < n ∧ p k ∧ ∀ i, i < k → ¬ p i
theorem fnd_ex (p : Nat → Prop) : ∀ n, ∃ v, Fnd p n v
  | 0 => ⟨-1, .inl ⟨rfl, fun i hi => by omega⟩⟩
  | n + 1 => by
    obtain ⟨v, h⟩ := fnd_ex p n
    rcases h with ⟨rfl, h⟩ | ⟨k, rfl, hk, hp, h⟩
    · by_cases hn : p n
      · exact ⟨n, .inr ⟨n, rfl, by omega, hn, h⟩⟩
      · exact ⟨-1, .inl ⟨rfl, fun i hi => by
          by_cases e : i = n
          · rw [e]; exact hn
          · exact h i (by omega)⟩⟩
    · exact ⟨k, .inr ⟨k, rfl, by omega, hp, h⟩⟩
theorem Fnd.hit {p : Nat → Prop} {n : Nat} {v : Int} (h : Fnd p n v) {k : Nat} (hk : k < n) (hp : p k) (h0 : ∀ i, i < k → ¬ p i) : v = k := by
  rcases h with ⟨rfl, h⟩ | ⟨j, rfl, hj, hpj, h⟩
  · exact absurd hp (h k hk)
  · rcases Nat.lt_trichotomy j k with q | q | q
    · exact absurd hpj (h0 j q)
    · rw [q]
    · exact absurd hp (h k q)
theorem Fnd.none {p : Nat → Prop} {n : Nat} {v : Int} (h : Fnd p n v) (h0 : ∀ i, i < n → ¬ p i) : v = -1 := by
  rcases h with ⟨rfl, _⟩ | ⟨j, rfl, hj, hpj, _⟩
  · rfl
  · exact absurd hpj (h0 j hj)
theorem Fnd.at {p : Nat → Prop} {n : Nat} {v : Int} (h : Fnd p n v) (h1 : ∃ i, i < n ∧ p i) : ∃ k : Nat, v = k ∧ k < n ∧ p k := by
  rcases h with ⟨rfl, h⟩ | ⟨j, rfl, hj, hpj, _⟩
  · obtain ⟨i, hi, hp⟩ := h1; exact absurd hp (h i hi)
  · exact ⟨j, rfl, hj, hpj⟩
/-- The take of a stratum. -/
def tkOf (ts : List Tak) (s : ByteArray) : Tak := (ts.find? (fun t => decide (t.1 = s))).getD tak0
theorem tk_at {ts : List Tak} {ns : List ByteArray} (h : ts.map (·.1) = ns) (hnd : ns.Nodup) {i : Nat} (hi : i < ns.length) : tkOf ts (ns.getD i ByteArray.empty) = ts.getD i tak0 := by
  subst h
  rw [List.length_map] at hi
  rw [getD_elem0 _ _ _ (by rw [List.length_map]; exact hi), getD_elem0 _ _ _ hi, List.getElem_map]
  unfold tkOf
  have hf : ts.find? (fun t => decide (t.1 = ts[i].1)) = some ts[i] := by
    rw [List.find?_eq_some_iff_getElem]
    refine ⟨by simp, i, hi, rfl, fun j hj => ?_⟩
    simp only [Bool.not_eq_true', decide_eq_false_iff_not]
    intro e
    have h1 : (ts.map (·.1))[j]'(by rw [List.length_map]; omega) = (ts.map (·.1))[i]'(by rw [List.length_map]; exact hi) := by rw [List.getElem_map, List.getElem_map]; exact e
    exact List.pairwise_iff_getElem.1 hnd j i (by rw [List.length_map]; omega) (by rw [List.length_map]; exact hi) hj h1
  rw [hf]; rfl
/-- The chance of a unit of a stratum. -/
def chR (kind : Int) (t : Tak) (us : List Unt) (u : Unt) : Rat :=
  if kind = 1 then (t.2.1 : Rat) / (((us.length : Int)) : Rat)
  else if kind = 2 then ((t.2.1 * u.2.2.2 : Int) : Rat) / ((szU us : Int) : Rat)
  else (((t.2.1 * szU (clU us u.2.2.1) : Int) : Rat) / ((szU us : Int) : Rat)) * ((t.2.2 : Rat) / ((((clU us u.2.2.1).length : Int)) : Rat))
noncomputable def chsR (kind : Int) (ts : List Tak) (l : List Unt) : List Rti × Int :=
  if dsgF kind ts l ≠ 0 then ([], dsgF kind ts l) else (l.map (fun u => shtT (chR kind (tkOf ts u.2.1) (stU l u.2.1) u)), 0)
/-- The bounds of a take that fits. -/
structure TkOk (kind : Int) (t : Tak) (us : List Unt) : Prop where
  lo : 0 ≤ t.2.1
  hi : t.2.1 ≤ (us.length : Int)
  el : t.2.1 ≤ ((elmL kind us).length : Int)
  big : kind ≠ 1 → t.2.1 * mxL (elmL kind us) ≤ szU us
  snd : kind ≠ 3 → t.2.2 = 0
  st : kind = 3 → 1 ≤ t.2.2 ∧ ∀ c ∈ cnsL us, t.2.2 ≤ ((clU us c).length : Int)
theorem tk_ok {kind : Int} {t : Tak} {us : List Unt} (h0 : us ≠ []) (h : takF kind t us = 0) : TkOk kind t us := by
  unfold takF at h
  split at h
  · cases h
  next h1 =>
  split at h
  · cases h
  next h2 =>
  have hlen : ((elmL kind us).length : Int) ≤ (us.length : Int) := by
    unfold elmL csL szL
    split
    · rw [List.length_map]; have := cns_len us; omega
    · rw [List.length_map]; omega
  have hsnd : kind ≠ 3 → t.2.2 = 0 := fun q => Classical.byContradiction fun q2 => h1 ⟨q, q2⟩
  by_cases hk1 : kind = 1
  · subst hk1
    exact ⟨by omega, by omega, by omega, fun q => absurd rfl q, hsnd, fun q => by omega⟩
  · rw [if_neg hk1] at h
    split at h
    · cases h
    next h3 =>
    split at h
    · cases h
    next h4 =>
    refine ⟨by omega, by omega, by omega, fun _ => by omega, hsnd, fun q => ?_⟩
    refine ⟨by omega, fun c hc => ?_⟩
    apply Classical.byContradiction
    intro q2
    exact h4 ⟨q, .inr ((few_le h0).2 ⟨c, hc, by omega⟩)⟩
theorem ratR_fineD {x : Rat} (hn : x.num.natAbs < 10 ^ 200) (hd : x.den < 10 ^ 200) : ∃ S T, ratR x = (S, T, 0) ∧ S.size ≤ 201 ∧ T.size ≤ 200 := by
  have h1 : (decB x.num.natAbs).size ≤ 200 := by rw [decB_bl, bl_size]; exact dec_len 199 _ hn
  have h2 : (decB x.den).size ≤ 200 := by rw [decB_bl, bl_size]; exact dec_len 199 _ hd
  clear hn hd
  unfold ratR
  rw [if_neg (by omega)]
  refine ⟨_, _, rfl, ?_, h2⟩
  split
  · rw [ByteArray.size_append]; show 1 + _ ≤ 201; omega
  · omega
theorem ratR_fineQD {a b : Int} (hb : b ≠ 0) (ha : a.natAbs < 10 ^ 200) (hbb : b.natAbs < 10 ^ 200) : ∃ S T, ratR ((a : Rat) / (b : Rat)) = (S, T, 0) ∧ S.size ≤ 201 ∧ T.size ≤ 200 := by
  have h0 : b.natAbs ≠ 0 := by omega
  rw [← rat_quot hb]
  refine ratR_fineD ?_ ?_
  · rw [rat_numAbs h0]; exact Nat.lt_of_le_of_lt (Nat.div_le_self _ _) ha
  · rw [rat_den h0]; exact Nat.lt_of_le_of_lt (Nat.div_le_self _ _) hbb
/-- A quotient of whole numbers with no more than 60 digits. -/
def Qu (x : Rat) (A B : Nat) : Prop := ∃ a b : Int, 0 < b ∧ x = (a : Rat) / (b : Rat) ∧ a.natAbs ≤ A ∧ b.natAbs ≤ B
theorem Qu.of {a b : Int} {A B : Nat} (h : 0 < b) (ha : a.natAbs ≤ A) (hb : b.natAbs ≤ B) : Qu ((a : Rat) / (b : Rat)) A B := ⟨a, b, h, rfl, ha, hb⟩
theorem Qu.mul {x y : Rat} {A B C D : Nat} (h : Qu x A B) (k : Qu y C D) : Qu (x * y) (A * C) (B * D) := by
  obtain ⟨a, b, hb, rfl, h1, h2⟩ := h
  obtain ⟨c, d, hd, rfl, h3, h4⟩ := k
  refine ⟨a * c, b * d, Int.mul_pos hb hd, ?_, ?_, ?_⟩
  · have hb0 : (b : Rat) ≠ 0 := by intro e; have : b = 0 := by exact_mod_cast e
                                   omega
    have hd0 : (d : Rat) ≠ 0 := by intro e; have : d = 0 := by exact_mod_cast e
                                   omega
    rw [Rat.intCast_mul, Rat.intCast_mul]
    grind
  · rw [Int.natAbs_mul]; exact Nat.mul_le_mul h1 h3
  · rw [Int.natAbs_mul]; exact Nat.mul_le_mul h2 h4
theorem Qu.fine {x : Rat} {A B : Nat} (h : Qu x A B) (hA : A < 10 ^ 200) (hB : B < 10 ^ 200) : ∃ S T, ratR x = (S, T, 0) ∧ S.size ≤ 201 ∧ T.size ≤ 200 := by
  obtain ⟨a, b, hb, rfl, h1, h2⟩ := h
  exact ratR_fineQD (by omega) (Nat.lt_of_le_of_lt h1 hA) (Nat.lt_of_le_of_lt h2 hB)
end Go.Proofs.YtnlhalnjbkpdnaaGreatDoor

namespace Go.Proofs.YtnlhalnjbkpdnaaGreatDoor
open Go.RowKit Go.Sort
set_option linter.unusedVariables false
set_option linter.unusedSimpArgs false
theorem int_eq_b {x y : Int} {b : Bool} (h : decide (x = y) = b) : ((x : Int) == y) = b := by rw [← h]; by_cases e : x = y <;> simp [e]
theorem str_eq_b {x y : ByteArray} {b : Bool} (h : decide (x = y) = b) : (x.toList == y.toList) = b := by
  rw [← h]
  by_cases e : x = y
  · rw [str_eq_t e, decide_eq_true e]
  · rw [str_eq_f e, decide_eq_false e]
set_option maxHeartbeats 1000000 in
theorem IdxL_c {w : World} {φ : Phi} (hφ : Fz φ w) {b : Nat} {u1 : Int} {u2 : ByteArray} {u3 u4 : Int} (hk : φ b = some (.cells #[.int .i64 u1, .string u2, .int .i64 u3, .int .i64 u4] 64)) {s : ByteArray} {a1 : Option Addr} {n1 c1 : Nat} {S : Int} {a2 : Option Addr} {n2 c2 : Nat} {o : Bool} (ho : Hid (decide (s = u2) = o)) :
    Calls Tryz.prog 89 #[.agg #[.string s, .slice a1 n1 c1, .int .i64 S, .slice a2 n2 c2], .pointer (some ⟨b, 0, none⟩)] w (fun e w' => e = .returned (.bool o) ∧ Below w.heap.size w w') := by
  have hB := Lib.hid ((Below.refl w.heap.size w).alloc (Nat.le_refl _) (.cells #[.string s, .slice a1 n1 c1, .int .i64 S, .slice a2 n2 c2] 137))
  have p0 : (w.alloc (.cells #[.string s, .slice a1 n1 c1, .int .i64 S, .slice a2 n2 c2] 137)).cell? ⟨b, 1, none⟩ = some (.string u2) := ((hφ.alloc _).blk hk).cell 1
  have hf := str_eq_b ho.out
  go_enter Tryz.func89, Tryz.ntmps89
  go_wp2
  go_ret
  exact ⟨rfl, hB.out⟩
set_option maxHeartbeats 1000000 in
theorem IdxL_any {w : World} {φ : Phi} (hφ : Fz φ w) {b : Nat} {u1 : Int} {u2 : ByteArray} {u3 u4 : Int} (hk : φ b = some (.cells #[.int .i64 u1, .string u2, .int .i64 u3, .int .i64 u4] 64)) (n : Nat) (a : Option Addr) (cap : Nat) (l : List Lyr) (sl : SlV φ a cap l) (hn : Hid (l.length = n)) {v : Int} (hv : Hid (Fnd (fun i => (l.getD i lyr0).1 = u2) n v)) :
    Calls Tryz.prog 88 #[.slice a n cap, .func (.func 89) #[] #[.pointer (some ⟨b, 0, none⟩)]] w (fun e w' => e = .returned (.int .i64 v) ∧ Below w.heap.size w w') := by
  have hm : n ≤ 9223372036854775807 := by have h1 := sl.capn; have h2 := sl.capm; rw [hn.out] at h1; unfold maxLen at h2; omega
  go_enter Tryz.func88, Tryz.ntmps88
  go_wp2
  go_loopw [8] (fun i wr => ∃ k : Nat, k ≤ n ∧ i = .int .i64 k ∧ Hid (∀ i, i < k → ¬ (l.getD i lyr0).1 = u2) ∧ Hid (Below w.heap.size w wr)) (fun i _ => n - (intOf i).toNat)
  case atStart => exact ⟨0, Nat.zero_le _, rfl, Lib.hid (fun i hi => by omega), Lib.hid (Below.refl _ _)⟩
  case round =>
    obtain ⟨k, hk2, rfl, hno, hB⟩ := hrel
    by_cases hlt : k < n
    · obtain ⟨b1, o1, rfl, f⟩ := sl.lyrD hn hlt
      obtain ⟨x1, x2, x3, x4, f⟩ := f k hlt; obtain ⟨hb1, d0, d1, d2, d3⟩ := f wr (hφ.below hB.out)
      have HY : Hid ((l.getD k lyr0).1 = u2 → v = k) := Lib.hid (fun h => hv.out.hit hlt h hno.out)
      have HN : Hid (¬ (l.getD k lyr0).1 = u2 → ∀ i, i < k + 1 → ¬ (l.getD i lyr0).1 = u2) := Lib.hid (fun h i hi => by
        by_cases e : i = k
        · subst e; exact h
        · exact hno.out i (by omega))
      clear f
      generalize l.getD k lyr0 = g at *
      obtain ⟨g1, g2, g3, g4⟩ := g; dsimp only at d0 d1 d2 d3 HY HN
      obtain ⟨o, ho⟩ : ∃ o, Hid (decide (g1 = u2) = o) := ⟨_, Lib.hid rfl⟩
      cases o with
      | true =>
        have H := Lib.hid (HY.out (of_decide_eq_true ho.out))
        clear HY HN
        go_wp2_with (go_at_call 89; (with_reducible refine (IdxL_c (hφ.below hB.out) hk ho).mono ?_); rintro e w5 ⟨rfl, hb5⟩)
        go_ret
        exact ⟨ret_int H.out.symm, hB.out.trans (hb5.mono hB.out.size)⟩
      | false =>
        have H := Lib.hid (HN.out (of_decide_eq_false ho.out))
        clear HY HN
        go_wp2_with (go_at_call 89; (with_reducible refine (IdxL_c (hφ.below hB.out) hk ho).mono ?_); rintro e w5 ⟨rfl, hb5⟩)
        go_roundw
        case rel => exact ⟨k + 1, by omega, by go_num, H, Lib.hid (hB.out.trans (hb5.mono hB.out.size))⟩
        case measure => (simp [intOf] <;> omega)
    · obtain rfl : k = n := by omega
      have H : Hid (v = -1) := Lib.hid (hv.out.none hno.out)
      go_wp2
      go_ret
      exact ⟨ret_int H.out.symm, hB.out⟩
set_option maxHeartbeats 1000000 in
theorem IdxC_c {w : World} {φ : Phi} (hφ : Fz φ w) {b : Nat} {u1 : Int} {u2 : ByteArray} {u3 u4 : Int} (hk : φ b = some (.cells #[.int .i64 u1, .string u2, .int .i64 u3, .int .i64 u4] 64)) {s S : Int} {a1 : Option Addr} {n1 c1 : Nat} {o : Bool} (ho : Hid (decide (s = u3) = o)) :
    Calls Tryz.prog 148 #[.agg #[.int .i64 s, .int .i64 S, .slice a1 n1 c1], .pointer (some ⟨b, 0, none⟩)] w (fun e w' => e = .returned (.bool o) ∧ Below w.heap.size w w') := by
  have hB := Lib.hid ((Below.refl w.heap.size w).alloc (Nat.le_refl _) (.cells #[.int .i64 s, .int .i64 S, .slice a1 n1 c1] 141))
  have p0 : (w.alloc (.cells #[.int .i64 s, .int .i64 S, .slice a1 n1 c1] 141)).cell? ⟨b, 2, none⟩ = some (.int .i64 u3) := ((hφ.alloc _).blk hk).cell 2
  have hf := int_eq_b ho.out
  go_enter Tryz.func148, Tryz.ntmps148
  go_wp2
  go_ret
  exact ⟨rfl, hB.out⟩
set_option maxHeartbeats 1000000 in
theorem IdxC_any {w : World} {φ : Phi} (hφ : Fz φ w) {b : Nat} {u1 : Int} {u2 : ByteArray} {u3 u4 : Int} (hk : φ b = some (.cells #[.int .i64 u1, .string u2, .int .i64 u3, .int .i64 u4] 64)) (n : Nat) (a : Option Addr) (cap : Nat) (l : List Clu) (sl : SlV φ a cap l) (hn : Hid (l.length = n)) {v : Int} (hv : Hid (Fnd (fun i => (l.getD i clu0).1 = u3) n v)) :
    Calls Tryz.prog 147 #[.slice a n cap, .func (.func 148) #[] #[.pointer (some ⟨b, 0, none⟩)]] w (fun e w' => e = .returned (.int .i64 v) ∧ Below w.heap.size w w') := by
  have hm : n ≤ 9223372036854775807 := by have h1 := sl.capn; have h2 := sl.capm; rw [hn.out] at h1; unfold maxLen at h2; omega
  go_enter Tryz.func147, Tryz.ntmps147
  go_wp2
  go_loopw [8] (fun i wr => ∃ k : Nat, k ≤ n ∧ i = .int .i64 k ∧ Hid (∀ i, i < k → ¬ (l.getD i clu0).1 = u3) ∧ Hid (Below w.heap.size w wr)) (fun i _ => n - (intOf i).toNat)
  case atStart => exact ⟨0, Nat.zero_le _, rfl, Lib.hid (fun i hi => by omega), Lib.hid (Below.refl _ _)⟩
  case round =>
    obtain ⟨k, hk2, rfl, hno, hB⟩ := hrel
    by_cases hlt : k < n
    · obtain ⟨b1, o1, rfl, f⟩ := sl.cluD hn hlt
      obtain ⟨x1, x2, x5, f⟩ := f k hlt; obtain ⟨hb1, d0, d1, d2⟩ := f wr (hφ.below hB.out)
      have HY : Hid ((l.getD k clu0).1 = u3 → v = k) := Lib.hid (fun h => hv.out.hit hlt h hno.out)
      have HN : Hid (¬ (l.getD k clu0).1 = u3 → ∀ i, i < k + 1 → ¬ (l.getD i clu0).1 = u3) := Lib.hid (fun h i hi => by
        by_cases e : i = k
        · subst e; exact h
        · exact hno.out i (by omega))
      clear f
      generalize l.getD k clu0 = g at *
      obtain ⟨g1, g2, g3⟩ := g; dsimp only at d0 d1 d2 HY HN
      obtain ⟨o, ho⟩ : ∃ o, Hid (decide (g1 = u3) = o) := ⟨_, Lib.hid rfl⟩
      cases o with
      | true =>
        have H := Lib.hid (HY.out (of_decide_eq_true ho.out))
        clear HY HN
        go_wp2_with (go_at_call 148; (with_reducible refine (IdxC_c (hφ.below hB.out) hk ho).mono ?_); rintro e w5 ⟨rfl, hb5⟩)
        go_ret
        exact ⟨ret_int H.out.symm, hB.out.trans (hb5.mono hB.out.size)⟩
      | false =>
        have H := Lib.hid (HN.out (of_decide_eq_false ho.out))
        clear HY HN
        go_wp2_with (go_at_call 148; (with_reducible refine (IdxC_c (hφ.below hB.out) hk ho).mono ?_); rintro e w5 ⟨rfl, hb5⟩)
        go_roundw
        case rel => exact ⟨k + 1, by omega, by go_num, H, Lib.hid (hB.out.trans (hb5.mono hB.out.size))⟩
        case measure => (simp [intOf] <;> omega)
    · obtain rfl : k = n := by omega
      have H : Hid (v = -1) := Lib.hid (hv.out.none hno.out)
      go_wp2
      go_ret
      exact ⟨ret_int H.out.symm, hB.out⟩
set_option maxHeartbeats 1000000 in
theorem IdxU_c {w : World} {φ : Phi} (hφ : Fz φ w) {b : Nat} {u1 : Int} {u2 : ByteArray} {u3 u4 : Int} (hk : φ b = some (.cells #[.int .i64 u1, .string u2, .int .i64 u3, .int .i64 u4] 64)) {s : Int} {v2 : ByteArray} {v3 v4 : Int} {o : Bool} (ho : Hid (decide (s = u1) = o)) :
    Calls Tryz.prog 104 #[.agg #[.int .i64 s, .string v2, .int .i64 v3, .int .i64 v4], .pointer (some ⟨b, 0, none⟩)] w (fun e w' => e = .returned (.bool o) ∧ Below w.heap.size w w') := by
  have hB := Lib.hid ((Below.refl w.heap.size w).alloc (Nat.le_refl _) (.cells #[.int .i64 s, .string v2, .int .i64 v3, .int .i64 v4] 64))
  have p0 : (w.alloc (.cells #[.int .i64 s, .string v2, .int .i64 v3, .int .i64 v4] 64)).cell? ⟨b, 0, none⟩ = some (.int .i64 u1) := ((hφ.alloc _).blk hk).cell 0
  have hf := int_eq_b ho.out
  go_enter Tryz.func104, Tryz.ntmps104
  go_wp2
  go_ret
  exact ⟨rfl, hB.out⟩
set_option maxHeartbeats 1000000 in
theorem IdxU_any {w : World} {φ : Phi} (hφ : Fz φ w) {b : Nat} {u1 : Int} {u2 : ByteArray} {u3 u4 : Int} (hk : φ b = some (.cells #[.int .i64 u1, .string u2, .int .i64 u3, .int .i64 u4] 64)) (n : Nat) (a : Option Addr) (cap : Nat) (l : List Unt) (sl : SlV φ a cap l) (hn : Hid (l.length = n)) {v : Int} (hv : Hid (Fnd (fun i => (l.getD i unt0).1 = u1) n v)) :
    Calls Tryz.prog 39 #[.slice a n cap, .func (.func 104) #[] #[.pointer (some ⟨b, 0, none⟩)]] w (fun e w' => e = .returned (.int .i64 v) ∧ Below w.heap.size w w') := by
  have hm : n ≤ 9223372036854775807 := by have h1 := sl.capn; have h2 := sl.capm; rw [hn.out] at h1; unfold maxLen at h2; omega
  go_enter Tryz.func39, Tryz.ntmps39
  go_wp2
  go_loopw [8] (fun i wr => ∃ k : Nat, k ≤ n ∧ i = .int .i64 k ∧ Hid (∀ i, i < k → ¬ (l.getD i unt0).1 = u1) ∧ Hid (Below w.heap.size w wr)) (fun i _ => n - (intOf i).toNat)
  case atStart => exact ⟨0, Nat.zero_le _, rfl, Lib.hid (fun i hi => by omega), Lib.hid (Below.refl _ _)⟩
  case round =>
    obtain ⟨k, hk2, rfl, hno, hB⟩ := hrel
    by_cases hlt : k < n
    · obtain ⟨b1, o1, rfl, f⟩ := sl.untD hn hlt
      obtain ⟨hb1, d0, d1, d2, d3⟩ := f k hlt wr (hφ.below hB.out)
      have HY : Hid ((l.getD k unt0).1 = u1 → v = k) := Lib.hid (fun h => hv.out.hit hlt h hno.out)
      have HN : Hid (¬ (l.getD k unt0).1 = u1 → ∀ i, i < k + 1 → ¬ (l.getD i unt0).1 = u1) := Lib.hid (fun h i hi => by
        by_cases e : i = k
        · subst e; exact h
        · exact hno.out i (by omega))
      clear f
      generalize l.getD k unt0 = g at *
      obtain ⟨g1, g2, g3, g4⟩ := g; dsimp only at d0 d1 d2 d3 HY HN
      obtain ⟨o, ho⟩ : ∃ o, Hid (decide (g1 = u1) = o) := ⟨_, Lib.hid rfl⟩
      cases o with
      | true =>
        have H := Lib.hid (HY.out (of_decide_eq_true ho.out))
        clear HY HN
        go_wp2_with (go_at_call 104; (with_reducible refine (IdxU_c (hφ.below hB.out) hk ho).mono ?_); rintro e w5 ⟨rfl, hb5⟩)
        go_ret
        exact ⟨ret_int H.out.symm, hB.out.trans (hb5.mono hB.out.size)⟩
      | false =>
        have H := Lib.hid (HN.out (of_decide_eq_false ho.out))
        clear HY HN
        go_wp2_with (go_at_call 104; (with_reducible refine (IdxU_c (hφ.below hB.out) hk ho).mono ?_); rintro e w5 ⟨rfl, hb5⟩)
        go_roundw
        case rel => exact ⟨k + 1, by omega, by go_num, H, Lib.hid (hB.out.trans (hb5.mono hB.out.size))⟩
        case measure => (simp [intOf] <;> omega)
    · obtain rfl : k = n := by omega
      have H : Hid (v = -1) := Lib.hid (hv.out.none hno.out)
      go_wp2
      go_ret
      exact ⟨ret_int H.out.symm, hB.out⟩
set_option maxHeartbeats 1000000 in
theorem IdxJ_c {w : World} {φ : Phi} (hφ : Fz φ w) {b : Nat} {u1 : Int} (hk : φ b = some (.cells #[.int .i64 u1] 3)) {s : Int} {v2 : ByteArray} {v3 v4 : Int} {o : Bool} (ho : Hid (decide (s = u1) = o)) :
    Calls Tryz.prog 40 #[.agg #[.int .i64 s, .string v2, .int .i64 v3, .int .i64 v4], .pointer (some ⟨b, 0, none⟩)] w (fun e w' => e = .returned (.bool o) ∧ Below w.heap.size w w') := by
  have hB := Lib.hid ((Below.refl w.heap.size w).alloc (Nat.le_refl _) (.cells #[.int .i64 s, .string v2, .int .i64 v3, .int .i64 v4] 64))
  have p0 : (w.alloc (.cells #[.int .i64 s, .string v2, .int .i64 v3, .int .i64 v4] 64)).cell? ⟨b, 0, none⟩ = some (.int .i64 u1) := ((hφ.alloc _).blk hk).cell 0
  have hf := int_eq_b ho.out
  go_enter Tryz.func40, Tryz.ntmps40
  go_wp2
  go_ret
  exact ⟨rfl, hB.out⟩
set_option maxHeartbeats 1000000 in
theorem IdxJ_any {w : World} {φ : Phi} (hφ : Fz φ w) {b : Nat} {u1 : Int} (hk : φ b = some (.cells #[.int .i64 u1] 3)) (n : Nat) (a : Option Addr) (cap : Nat) (l : List Unt) (sl : SlV φ a cap l) (hn : Hid (l.length = n)) {v : Int} (hv : Hid (Fnd (fun i => (l.getD i unt0).1 = u1) n v)) :
    Calls Tryz.prog 39 #[.slice a n cap, .func (.func 40) #[] #[.pointer (some ⟨b, 0, none⟩)]] w (fun e w' => e = .returned (.int .i64 v) ∧ Below w.heap.size w w') := by
  have hm : n ≤ 9223372036854775807 := by have h1 := sl.capn; have h2 := sl.capm; rw [hn.out] at h1; unfold maxLen at h2; omega
  go_enter Tryz.func39, Tryz.ntmps39
  go_wp2
  go_loopw [8] (fun i wr => ∃ k : Nat, k ≤ n ∧ i = .int .i64 k ∧ Hid (∀ i, i < k → ¬ (l.getD i unt0).1 = u1) ∧ Hid (Below w.heap.size w wr)) (fun i _ => n - (intOf i).toNat)
  case atStart => exact ⟨0, Nat.zero_le _, rfl, Lib.hid (fun i hi => by omega), Lib.hid (Below.refl _ _)⟩
  case round =>
    obtain ⟨k, hk2, rfl, hno, hB⟩ := hrel
    by_cases hlt : k < n
    · obtain ⟨b1, o1, rfl, f⟩ := sl.untD hn hlt
      obtain ⟨hb1, d0, d1, d2, d3⟩ := f k hlt wr (hφ.below hB.out)
      have HY : Hid ((l.getD k unt0).1 = u1 → v = k) := Lib.hid (fun h => hv.out.hit hlt h hno.out)
      have HN : Hid (¬ (l.getD k unt0).1 = u1 → ∀ i, i < k + 1 → ¬ (l.getD i unt0).1 = u1) := Lib.hid (fun h i hi => by
        by_cases e : i = k
        · subst e; exact h
        · exact hno.out i (by omega))
      clear f
      generalize l.getD k unt0 = g at *
      obtain ⟨g1, g2, g3, g4⟩ := g; dsimp only at d0 d1 d2 d3 HY HN
      obtain ⟨o, ho⟩ : ∃ o, Hid (decide (g1 = u1) = o) := ⟨_, Lib.hid rfl⟩
      cases o with
      | true =>
        have H := Lib.hid (HY.out (of_decide_eq_true ho.out))
        clear HY HN
        go_wp2_with (go_at_call 40; (with_reducible refine (IdxJ_c (hφ.below hB.out) hk ho).mono ?_); rintro e w5 ⟨rfl, hb5⟩)
        go_ret
        exact ⟨ret_int H.out.symm, hB.out.trans (hb5.mono hB.out.size)⟩
      | false =>
        have H := Lib.hid (HN.out (of_decide_eq_false ho.out))
        clear HY HN
        go_wp2_with (go_at_call 40; (with_reducible refine (IdxJ_c (hφ.below hB.out) hk ho).mono ?_); rintro e w5 ⟨rfl, hb5⟩)
        go_roundw
        case rel => exact ⟨k + 1, by omega, by go_num, H, Lib.hid (hB.out.trans (hb5.mono hB.out.size))⟩
        case measure => (simp [intOf] <;> omega)
    · obtain rfl : k = n := by omega
      have H : Hid (v = -1) := Lib.hid (hv.out.none hno.out)
      go_wp2
      go_ret
      exact ⟨ret_int H.out.symm, hB.out⟩
set_option maxHeartbeats 1000000 in
theorem IdxK_c {w : World} {φ : Phi} (hφ : Fz φ w) {b : Nat} {u1 : Int} (hk : φ b = some (.cells #[.int .i64 u1] 3)) {s : Int} {v2 : ByteArray} {v3 v4 : Int} {o : Bool} (ho : Hid (decide (s = u1) = o)) :
    Calls Tryz.prog 41 #[.agg #[.int .i64 s, .string v2, .int .i64 v3, .int .i64 v4], .pointer (some ⟨b, 0, none⟩)] w (fun e w' => e = .returned (.bool o) ∧ Below w.heap.size w w') := by
  have hB := Lib.hid ((Below.refl w.heap.size w).alloc (Nat.le_refl _) (.cells #[.int .i64 s, .string v2, .int .i64 v3, .int .i64 v4] 64))
  have p0 : (w.alloc (.cells #[.int .i64 s, .string v2, .int .i64 v3, .int .i64 v4] 64)).cell? ⟨b, 0, none⟩ = some (.int .i64 u1) := ((hφ.alloc _).blk hk).cell 0
  have hf := int_eq_b ho.out
  go_enter Tryz.func41, Tryz.ntmps41
  go_wp2
  go_ret
  exact ⟨rfl, hB.out⟩
set_option maxHeartbeats 1000000 in
theorem IdxK_any {w : World} {φ : Phi} (hφ : Fz φ w) {b : Nat} {u1 : Int} (hk : φ b = some (.cells #[.int .i64 u1] 3)) (n : Nat) (a : Option Addr) (cap : Nat) (l : List Unt) (sl : SlV φ a cap l) (hn : Hid (l.length = n)) {v : Int} (hv : Hid (Fnd (fun i => (l.getD i unt0).1 = u1) n v)) :
    Calls Tryz.prog 39 #[.slice a n cap, .func (.func 41) #[] #[.pointer (some ⟨b, 0, none⟩)]] w (fun e w' => e = .returned (.int .i64 v) ∧ Below w.heap.size w w') := by
  have hm : n ≤ 9223372036854775807 := by have h1 := sl.capn; have h2 := sl.capm; rw [hn.out] at h1; unfold maxLen at h2; omega
  go_enter Tryz.func39, Tryz.ntmps39
  go_wp2
  go_loopw [8] (fun i wr => ∃ k : Nat, k ≤ n ∧ i = .int .i64 k ∧ Hid (∀ i, i < k → ¬ (l.getD i unt0).1 = u1) ∧ Hid (Below w.heap.size w wr)) (fun i _ => n - (intOf i).toNat)
  case atStart => exact ⟨0, Nat.zero_le _, rfl, Lib.hid (fun i hi => by omega), Lib.hid (Below.refl _ _)⟩
  case round =>
    obtain ⟨k, hk2, rfl, hno, hB⟩ := hrel
    by_cases hlt : k < n
    · obtain ⟨b1, o1, rfl, f⟩ := sl.untD hn hlt
      obtain ⟨hb1, d0, d1, d2, d3⟩ := f k hlt wr (hφ.below hB.out)
      have HY : Hid ((l.getD k unt0).1 = u1 → v = k) := Lib.hid (fun h => hv.out.hit hlt h hno.out)
      have HN : Hid (¬ (l.getD k unt0).1 = u1 → ∀ i, i < k + 1 → ¬ (l.getD i unt0).1 = u1) := Lib.hid (fun h i hi => by
        by_cases e : i = k
        · subst e; exact h
        · exact hno.out i (by omega))
      clear f
      generalize l.getD k unt0 = g at *
      obtain ⟨g1, g2, g3, g4⟩ := g; dsimp only at d0 d1 d2 d3 HY HN
      obtain ⟨o, ho⟩ : ∃ o, Hid (decide (g1 = u1) = o) := ⟨_, Lib.hid rfl⟩
      cases o with
      | true =>
        have H := Lib.hid (HY.out (of_decide_eq_true ho.out))
        clear HY HN
        go_wp2_with (go_at_call 41; (with_reducible refine (IdxK_c (hφ.below hB.out) hk ho).mono ?_); rintro e w5 ⟨rfl, hb5⟩)
        go_ret
        exact ⟨ret_int H.out.symm, hB.out.trans (hb5.mono hB.out.size)⟩
      | false =>
        have H := Lib.hid (HN.out (of_decide_eq_false ho.out))
        clear HY HN
        go_wp2_with (go_at_call 41; (with_reducible refine (IdxK_c (hφ.below hB.out) hk ho).mono ?_); rintro e w5 ⟨rfl, hb5⟩)
        go_roundw
        case rel => exact ⟨k + 1, by omega, by go_num, H, Lib.hid (hB.out.trans (hb5.mono hB.out.size))⟩
        case measure => (simp [intOf] <;> omega)
    · obtain rfl : k = n := by omega
      have H : Hid (v = -1) := Lib.hid (hv.out.none hno.out)
      go_wp2
      go_ret
      exact ⟨ret_int H.out.symm, hB.out⟩
set_option maxHeartbeats 1000000 in
theorem layer_any {w : World} {φ : Phi} (hφ : Fz φ w) {p : Nat} {kind : Int} {aT : Option Addr} {nT cT : Nat} {aL : Option Addr} {nL cL : Nat} (hp : φ p = some (.cells #[.int .i64 kind, .slice aT nT cT, .slice aL nL cL] 90)) {ls : List Lyr} (sl : SlV φ aL cL ls) (hn : Hid (ls.length = nL)) {u1 : Int} {u2 : ByteArray} {u3 u4 : Int} {v : Int} (hv : Hid (Fnd (fun i => (ls.getD i lyr0).1 = u2) nL v)) :
    Calls Tryz.prog 31 #[.pointer (some ⟨p, 0, none⟩), .agg #[.int .i64 u1, .string u2, .int .i64 u3, .int .i64 u4]] w (fun e w' => e = .returned (.int .i64 v) ∧ Below w.heap.size w w') := by
  obtain ⟨φ1, le1, i1, k1⟩ := (Inv.start hφ).frz (.cells #[.int .i64 u1, .string u2, .int .i64 u3, .int .i64 u4] 64)
  have C := Lib.hid (IdxL_any i1.fz k1 nL aL cL ls (sl.mono le1) hn hv)
  have HB := Lib.hid i1.bel
  have y2 : (w.alloc (.cells #[.int .i64 u1, .string u2, .int .i64 u3, .int .i64 u4] 64)).cell? ⟨p, 2, none⟩ = some (.slice aL nL cL) := (i1.fz.blk (le1 _ _ hp)).cell 2
  clear i1 k1 le1
  go_enter Tryz.func31, Tryz.ntmps31
  go_wp2_with fail
  refine C.out.mono ?_
  rintro e w2 ⟨rfl, hb2⟩
  go_wp2
  go_ret
  exact ⟨rfl, HB.out.trans (hb2.mono HB.out.size)⟩
set_option maxHeartbeats 1000000 in
theorem cluster_any {w : World} {φ : Phi} (hφ : Fz φ w) {nm : ByteArray} {aU aC : Option Addr} {nU cU nC cC : Nat} {S : Int} {cl : List Clu} (sl : SlV φ aC cC cl) (hn : Hid (cl.length = nC)) {u1 : Int} {u2 : ByteArray} {u3 u4 : Int} {v : Int} (hv : Hid (Fnd (fun i => (cl.getD i clu0).1 = u3) nC v)) :
    Calls Tryz.prog 87 #[.agg #[.string nm, .slice aU nU cU, .int .i64 S, .slice aC nC cC], .agg #[.int .i64 u1, .string u2, .int .i64 u3, .int .i64 u4]] w (fun e w' => e = .returned (.int .i64 v) ∧ Below w.heap.size w w') := by
  obtain ⟨φ0, le0, i0, k0⟩ := (Inv.start hφ).frz (.cells #[.string nm, .slice aU nU cU, .int .i64 S, .slice aC nC cC] 137)
  obtain ⟨φ1, le1, i1, k1⟩ := i0.frz (.cells #[.int .i64 u1, .string u2, .int .i64 u3, .int .i64 u4] 64)
  rw [alloc_sz] at k1
  have C := Lib.hid (IdxC_any i1.fz k1 nC aC cC cl (sl.mono (le0.trans le1)) hn hv)
  have HB := Lib.hid i1.bel
  have y2 : ((w.alloc (.cells #[.string nm, .slice aU nU cU, .int .i64 S, .slice aC nC cC] 137)).alloc (.cells #[.int .i64 u1, .string u2, .int .i64 u3, .int .i64 u4] 64)).cell? ⟨w.heap.size, 3, none⟩ = some (.slice aC nC cC) := (i1.fz.blk (le1 _ _ k0)).cell 3
  clear i1 k1 le1 i0 k0 le0
  go_enter Tryz.func87, Tryz.ntmps87
  go_wp2_with fail
  refine C.out.mono ?_
  rintro e w2 ⟨rfl, hb2⟩
  go_wp2
  go_ret
  exact ⟨rfl, HB.out.trans (hb2.mono HB.out.size)⟩
end Go.Proofs.YtnlhalnjbkpdnaaGreatDoor

namespace Go.Proofs.YtnlhalnjbkpdnaaGreatDoor
open Go.RowKit Go.Sort
set_option linter.unusedVariables false
set_option linter.unusedSimpArgs false
theorem p10_posD (k : Nat) : 0 < p10 k := Nat.pow_pos (by decide)
/-- What the chapter needs of the numbers' bound. -/
structure MOk (M : Nat) : Prop where
  d : DivOk M
  b : LenB M
  m : p10 2000 * p10 2000 ≤ M
theorem MOk.one {M : Nat} (h : MOk M) : p10 2000 ≤ M := Nat.le_trans (Nat.le_mul_of_pos_right _ (p10_posD 2000)) h.m
theorem MOk.le {M : Nat} (h : MOk M) {n : Nat} (hn : n ≤ 100000000000000) : n ≤ M := Nat.le_trans hn (Nat.le_trans (show 100000000000000 ≤ p10 2000 from Nat.le_trans (show 100000000000000 ≤ 10 ^ 14 by decide) (p10_mono (by decide))) h.one)
def QuF (x : Rat) : Prop := ∃ A B, Qu x A B ∧ A < 10 ^ 200 ∧ B < 10 ^ 200
theorem QuF.sht {x : Rat} (h : QuF x) {S T : ByteArray} (hs : shtT x = (S, T)) : ratR x = (S, T, 0) ∧ S.size ≤ 201 ∧ T.size ≤ 200 := by
  obtain ⟨A, B, hq, hA, hB⟩ := h
  obtain ⟨S', T', h1, h2, h3⟩ := hq.fine hA hB
  unfold shtT at hs
  rw [h1] at hs
  obtain ⟨rfl, rfl⟩ := Prod.mk.inj hs
  exact ⟨h1, h2, h3⟩
theorem QuF.of {a b : Int} (h0 : 0 < b) (ha : a.natAbs ≤ 100000000000000) (hb : b.natAbs ≤ 100000000000000) : QuF ((a : Rat) / (b : Rat)) := ⟨_, _, Qu.of h0 ha hb, by decide, by decide⟩
theorem frac_q {M : Nat} (hM : Hid (MOk M)) {a b : Int} (h0 : 0 ≤ a) (ha : a ≤ 100000000000000) (hb0 : 0 < b) (hb : b ≤ 100000000000000) {w : World} {φ : Phi} (hφ : Fz φ w) (hp : PowP φ) {S T : ByteArray} (hr : Hid (shtT ((a : Rat) / (b : Rat)) = (S, T))) :
    Calls Tryz.prog 53 #[.int .i64 a, .int .i64 b] w (fun e w' => e = .returned (.agg #[.string S, .string T]) ∧ Below w.heap.size w w') :=
  fraction_any (Lib.hid hM.out.d) hM.out.b (by omega) (by omega) (by omega) (by omega) (hM.out.le (by omega)) (hM.out.le (by omega)) (by omega) hφ hp (Lib.hid ((QuF.of hb0 (by omega) (by omega)).sht hr.out).1)
set_option maxHeartbeats 1000000 in
theorem times_q {M : Nat} (hM : Hid (MOk M)) {x y : Rat} (qx : Hid (QuF x)) (qy : Hid (QuF y)) (qz : Hid (QuF (x * y))) {s1 t1 s2 t2 S T : ByteArray} (h1 : Hid (shtT x = (s1, t1))) (h2 : Hid (shtT y = (s2, t2))) (h3 : Hid (shtT (x * y) = (S, T))) {w : World} {φ : Phi} (hφ : Fz φ w) (hp : PowP φ) :
    Calls Tryz.prog 42 #[.agg #[.string s1, .string t1], .agg #[.string s2, .string t2]] w (fun e w' => e = .returned (.agg #[.string S, .string T]) ∧ Below w.heap.size w w') := by
  obtain ⟨e1, l1, l2⟩ := qx.out.sht h1.out
  obtain ⟨e2, l3, l4⟩ := qy.out.sht h2.out
  obtain ⟨e3, _, _⟩ := qz.out.sht h3.out
  have HS : Hid (s1.size ≤ 9223372036854775807 ∧ t1.size ≤ 9223372036854775807 ∧ s2.size ≤ 9223372036854775807 ∧ t2.size ≤ 9223372036854775807) := Lib.hid ⟨by omega, by omega, by omega, by omega⟩
  have R1 := Lib.hid (ratR_back e1)
  have R2 := Lib.hid (ratR_back e2)
  have R3 := Lib.hid e3
  obtain ⟨N, hN⟩ : ∃ N, Hid (p10 2000 = N) := ⟨_, Lib.hid rfl⟩
  have HNM : Hid (N * N ≤ M ∧ N ≤ M) := Lib.hid (by rw [← hN.out]; exact ⟨hM.out.m, hM.out.one⟩)
  have HP := Lib.hid hp
  obtain ⟨φ1, hle1, hi1, hb1⟩ := (Inv.start hφ).frz (.cells #[.string s1, .string t1] 33)
  obtain ⟨φ2, hle2, hi2, hb2⟩ := hi1.frz (.cells #[.string s2, .string t2] 33)
  rw [alloc_sz] at hb2
  have hx0 := RsSt.start hi2 #[.string ⟨#[]⟩, .string ⟨#[]⟩] 33
  have HX0 : Hid (RsSt w φ φ2 (w.heap.size + 1 + 1) #[.string ⟨#[]⟩, .string ⟨#[]⟩] 33 (((w.alloc (.cells #[.string s1, .string t1] 33)).alloc (.cells #[.string s2, .string t2] 33)).alloc (.cells #[.string ⟨#[]⟩, .string ⟨#[]⟩] 33))) := Lib.hid (by simpa only [alloc_sz] using hx0)
  have LL := Lib.hid (hle1.trans hle2)
  have HB1 := Lib.hid (hle2 _ _ hb1)
  have HB2 := Lib.hid hb2
  clear hi1 hi2 hb1 hb2 hle1 hle2 hx0 hφ hp e1 e2 e3 l1 l2 l3 l4
  go_enter Tryz.func42, Tryz.ntmps42
  go_upto_region 1 with fail
  generalize ((w.alloc (.cells #[.string s1, .string t1] 33)).alloc (.cells #[.string s2, .string t2] 33)).alloc (.cells #[.string ⟨#[]⟩, .string ⟨#[]⟩] 33) = w1 at *
  have y0 : w1.cell? ⟨w.heap.size, 0, none⟩ = some (.string s1) := box_cell HB1.out φ2.le_refl HX0.out.inv.fz 0
  have y1 : w1.cell? ⟨w.heap.size, 1, none⟩ = some (.string t1) := box_cell HB1.out φ2.le_refl HX0.out.inv.fz 1
  have y2 : w1.cell? ⟨w.heap.size + 1, 0, none⟩ = some (.string s2) := box_cell HB2.out φ2.le_refl HX0.out.inv.fz 0
  have y3 : w1.cell? ⟨w.heap.size + 1, 1, none⟩ = some (.string t2) := box_cell HB2.out φ2.le_refl HX0.out.inv.fz 1
  go_wp2_with (go_at_call 101; (with_reducible refine (Product_any (Lib.hid hM.out.d) hM.out.b hM.out.one HS R1 R2 hN HNM HX0.out.inv.fz (HP.out.mono LL.out) R3).mono ?_); rintro e w2 ⟨rfl, hb2⟩; have H2 := Lib.hid (HX0.out.callB hb2); clear hb2 y0 y1 y2 y3; have r0 : w2.cell? ⟨w.heap.size + 1 + 1, 0, none⟩ = some (.string ⟨#[]⟩) := H2.out.k.cell 0; have r1 : w2.cell? ⟨w.heap.size + 1 + 1, 1, none⟩ = some (.string ⟨#[]⟩) := H2.out.k.cell 1; have r2 := H2.out.k.frz 0; have r3 := H2.out.k.frz 1; have hlt := H2.out.k.lt)
  have hZ := Lib.hid (((H2.out.set 0 (.string S)).set 1 (.string T)).callB ((Below.refl _ _).alloc (Nat.le_refl _) (.cells #[.string S, .string T] 33)))
  have e0 : _ = some (Value.string S) := hZ.out.k.cell 0
  have e1 : _ = some (Value.string T) := hZ.out.k.cell 1
  (try simp only [Exit.inBlock, Exit.then])
  refine bodyPost_ret (v := .agg #[.string S, .string T]) (by simp [results, Tryz.results42, go_sem, e0, e1]) rfl ?_
  exact ⟨rfl, hZ.out.inv.bel⟩
end Go.Proofs.YtnlhalnjbkpdnaaGreatDoor

namespace Go.Proofs.YtnlhalnjbkpdnaaGreatDoor
open Go.RowKit Go.Sort
set_option linter.unusedVariables false
set_option linter.unusedSimpArgs false
/-- A plan in memory, its stratum at place k. -/
structure PlAt (φ : Phi) (p : Nat) (kind : Int) (aT : Option Addr) (nT cT : Nat) (ts : List Tak) (aL : Option Addr) (nL cL : Nat) (ls : List Lyr) : Prop where
  box : φ p = some (.cells #[.int .i64 kind, .slice aT nT cT, .slice aL nL cL] 90)
  sT : SlV φ aT cT ts
  sL : SlV φ aL cL ls
  nT : ts.length = nT
  nL : ls.length = nL
theorem PlAt.mono {φ φ' : Phi} {p : Nat} {kind : Int} {aT : Option Addr} {nT cT : Nat} {ts : List Tak} {aL : Option Addr} {nL cL : Nat} {ls : List Lyr} (h : PlAt φ p kind aT nT cT ts aL nL cL ls) (hl : φ.le φ') : PlAt φ' p kind aT nT cT ts aL nL cL ls := ⟨hl _ _ h.box, h.sT.mono hl, h.sL.mono hl, h.nT, h.nL⟩
theorem Fz.drew1 {φ : Phi} {w : World} (h : Fz φ w) : Fz φ w.drew := h
/-- A store into a block that lies behind all that is frozen. -/
theorem Fz.setN {φ : Phi} {w : World} (h : Fz φ w) {B : Nat} (hN : ∀ g, B ≤ g → φ g = none) {g off : Nat} (hg : B ≤ g) (u : Value) : Fz φ (w.setCell ⟨g, off, none⟩ u) := by
  intro b o hb
  have hne : b ≠ g := by intro e; subst e; rw [hN b hg] at hb; cases hb
  exact (Below.heap_setCell w ⟨g, off, none⟩ u b (fun e => hne e)).trans (h b o hb)
/-- A result's cell, and two boxes that are only read. -/
def Bx2 (w0 : World) (φ0 φ1 : Phi) (br bx : Nat) (ox : Obj) (bt : Nat) (ot : Obj) (W : World) : Prop :=
  ∃ φ2, RsSt w0 φ0 φ2 br #[.string ⟨#[]⟩, .string ⟨#[]⟩] 33 W ∧ φ1.le φ2 ∧ φ2 bx = some ox ∧ φ2 bt = some ot
theorem Bx2.one {w0 W : World} {φ0 φ1 : Phi} {br : Nat} (h : RsSt w0 φ0 φ1 br #[.string ⟨#[]⟩, .string ⟨#[]⟩] 33 W) (ox ot : Obj) : Bx2 w0 φ0 φ1 br W.heap.size ox (W.heap.size + 1) ot (((W.alloc ox).alloc ot).drew) := by
  obtain ⟨φ2, l2, i2, k2⟩ := (Inv.start h.inv.fz).frz ox
  obtain ⟨φ3, l3, i3, k3⟩ := i2.frz ot
  rw [alloc_sz] at k3
  exact ⟨φ3, (h.call i3).drewN 1, l2.trans l3, l3 _ _ k2, k3⟩
theorem Bx2.two {w0 W : World} {φ0 φ1 : Phi} {br : Nat} (h : RsSt w0 φ0 φ1 br #[.string ⟨#[]⟩, .string ⟨#[]⟩] 33 W) (ox ot : Obj) : Bx2 w0 φ0 φ1 br (W.heap.size + 1) ox W.heap.size ot (((W.alloc ot).alloc ox).drew) := by
  obtain ⟨φ2, h1, h2, h3, h4⟩ := Bx2.one h ot ox
  exact ⟨φ2, h1, h2, h4, h3⟩
/-- A result's cell and a box of the call's own. -/
structure C2S (w0 : World) (φ0 φ : Phi) (br b9 : Nat) (cs : Array Value) (W : World) : Prop where
  x : RsSt w0 φ0 φ br #[.string ⟨#[]⟩, .string ⟨#[]⟩] 33 W
  y : RsSt w0 φ0 φ b9 cs 141 W
  ne : b9 ≠ br
theorem C2S.callB {w0 W w' : World} {φ0 φ : Phi} {br b9 : Nat} {cs : Array Value} (h : C2S w0 φ0 φ br b9 cs W) (hb : Below W.heap.size W w') : C2S w0 φ0 φ br b9 cs w' := ⟨h.x.callB hb, h.y.callB hb, h.ne⟩
theorem C2S.one {w0 W : World} {φ0 φ : Phi} {br : Nat} (h : Hid (RsSt w0 φ0 φ br #[.string ⟨#[]⟩, .string ⟨#[]⟩] 33 W)) (cs : Array Value) : C2S w0 φ0 φ br W.heap.size cs (W.alloc (.cells cs 141)) :=
  ⟨h.out.callB ((Below.refl _ _).alloc (Nat.le_refl _) _), RsSt.start h.out.inv _ _, by have := h.out.k.lt; omega⟩
theorem C2S.two {w0 W : World} {φ0 φ : Phi} {br g : Nat} {v0 v1 v2 : Value} (h : Hid (RsSt w0 φ0 φ br #[.string ⟨#[]⟩, .string ⟨#[]⟩] 33 W)) (k : Hid (RsSt w0 φ0 φ g #[v0, v1, v2] 141 W)) (hne : Hid (g ≠ br)) (u0 u1 u2 : Value) : C2S w0 φ0 φ br g #[u0, u1, u2] (((W.setCell ⟨g, 0, none⟩ u0).setCell ⟨g, 1, none⟩ u1).setCell ⟨g, 2, none⟩ u2) :=
  ⟨((h.out.oth k.out hne.out 0 u0).oth (k.out.set 0 u0) hne.out 1 u1).oth ((k.out.set 0 u0).set 1 u1) hne.out 2 u2, ((k.out.set 0 u0).set 1 u1).set 2 u2, hne.out⟩
theorem frac_S {M : Nat} (hM : Hid (MOk M)) {a b : Int} (h0 : 0 ≤ a ∧ a ≤ 100000000000000 ∧ 0 < b ∧ b ≤ 100000000000000) {w0 W : World} {φ0 φ : Phi} {br b9 : Nat} {cs : Array Value} (hp : Hid (PowP φ)) {S T : ByteArray} (hr : Hid (shtT ((a : Rat) / (b : Rat)) = (S, T))) (h : Hid (C2S w0 φ0 φ br b9 cs W)) :
    Calls Tryz.prog 53 #[.int .i64 a, .int .i64 b] W (fun e w' => e = .returned (.agg #[.string S, .string T]) ∧ Hid (C2S w0 φ0 φ br b9 cs w')) :=
  (frac_q hM h0.1 h0.2.1 h0.2.2.1 h0.2.2.2 h.out.x.inv.fz hp.out hr).mono fun e w' q => ⟨q.1, Lib.hid (h.out.callB q.2)⟩
theorem times_S {M : Nat} (hM : Hid (MOk M)) {x y : Rat} (qx : Hid (QuF x)) (qy : Hid (QuF y)) (qz : Hid (QuF (x * y))) {s1 t1 s2 t2 S T : ByteArray} (h1 : Hid (shtT x = (s1, t1))) (h2 : Hid (shtT y = (s2, t2))) (h3 : Hid (shtT (x * y) = (S, T))) {w0 W : World} {φ0 φ : Phi} {br b9 : Nat} {cs : Array Value} (hp : Hid (PowP φ)) (h : Hid (C2S w0 φ0 φ br b9 cs W)) :
    Calls Tryz.prog 42 #[.agg #[.string s1, .string t1], .agg #[.string s2, .string t2]] W (fun e w' => e = .returned (.agg #[.string S, .string T]) ∧ Hid (C2S w0 φ0 φ br b9 cs w')) :=
  (times_q hM qx qy qz h1 h2 h3 h.out.x.inv.fz hp.out).mono fun e w' q => ⟨q.1, Lib.hid (h.out.callB q.2)⟩
set_option maxRecDepth 100000 in
set_option maxHeartbeats 4000000 in
theorem chance_any {M : Nat} (hM : Hid (MOk M)) {w : World} {φ : Phi} (hφ : Fz φ w) (hp : PowP φ) {p : Nat} {kind : Int} {aT : Option Addr} {nT cT : Nat} {ts : List Tak} {aL : Option Addr} {nL cL : Nat} {ls : List Lyr} (pl : PlAt φ p kind aT nT cT ts aL nL cL ls) (hk : kind = 1 ∨ kind = 2 ∨ kind = 3)
    {k : Nat} (hkT : k < nT) (hkL : k < nL) {nm : ByteArray} {us : List Unt} {s : ByteArray} {t1 t2 : Int} (hL : Hid (ls.getD k lyr0 = (nm, us, szU us, (cnsL us).map (cluF us)))) (hT : Hid (ts.getD k tak0 = (s, t1, t2))) (ht : Hid (TkOk kind (s, t1, t2) us)) {n : Nat} (hn : Hid (us.length = n)) (hl : n ≤ 5000) (hok : Hid (∀ u ∈ us, 1 ≤ u.2.2.2 ∧ u.2.2.2 ≤ 1000000))
    {u1 : Int} {u2 : ByteArray} {u3 u4 : Int} (hu : Hid ((u1, u2, u3, u4) ∈ us)) {S T : ByteArray} (hr : Hid (shtT (chR kind (s, t1, t2) us (u1, u2, u3, u4)) = (S, T))) :
    Calls Tryz.prog 30 #[.pointer (some ⟨p, 0, none⟩), .int .i64 (k : Int), .agg #[.int .i64 u1, .string u2, .int .i64 u3, .int .i64 u4]] w (fun e w' => e = .returned (.agg #[.string S, .string T]) ∧ Below w.heap.size w w') := by
  obtain ⟨φ1, hle1, hi1, hb1⟩ := (Inv.start hφ).frz (.cells #[.int .i64 u1, .string u2, .int .i64 u3, .int .i64 u4] 64)
  have hx0 := RsSt.start hi1 #[.string ⟨#[]⟩, .string ⟨#[]⟩] 33
  have HX0 : Hid (RsSt w φ φ1 (w.heap.size + 1) #[.string ⟨#[]⟩, .string ⟨#[]⟩] 33 ((w.alloc (.cells #[.int .i64 u1, .string u2, .int .i64 u3, .int .i64 u4] 64)).alloc (.cells #[.string ⟨#[]⟩, .string ⟨#[]⟩] 33))) := Lib.hid (by simpa only [alloc_sz] using hx0)
  have PL := Lib.hid (pl.mono hle1)
  have HB1 := Lib.hid hb1
  have HP := Lib.hid (hp.mono hle1)
  have hTl := Lib.hid pl.nT
  have hLl := Lib.hid pl.nL
  clear hle1 hi1 hb1 hx0 hφ hp pl
  obtain ⟨sz, hsz⟩ : ∃ z, Hid (szU us = z) := ⟨_, Lib.hid rfl⟩
  obtain ⟨nc, hnc⟩ : ∃ z, Hid ((cnsL us).length = z) := ⟨_, Lib.hid rfl⟩
  rw [hsz.out] at hL
  obtain ⟨bL, oL, rfl, f1⟩ := PL.out.sL.lyrS hLl hkL
  obtain ⟨aU, cU, aC, cC, sU, sC, f1⟩ := f1 k hkL
  obtain ⟨bT, oT, rfl, f2⟩ := PL.out.sT.takD hTl hkT
  have f2 := f2 k hkT
  rw [hL.out] at f1 sU sC
  rw [hT.out] at f2
  dsimp only at f1 f2 sU sC
  rw [List.length_map, hn.out, hnc.out] at f1
  have SU := Lib.hid sU
  have SC := Lib.hid sC
  have hbox := Lib.hid (fun (ψ : Phi) (W : World) (hl : φ1.le ψ) (hf : Fz ψ W) => (⟨(hf.blk (hl _ _ PL.out.box)).cell 0, (hf.blk (hl _ _ PL.out.box)).cell 1, (hf.blk (hl _ _ PL.out.box)).cell 2, (f1 W (hf.sub hl)).2, (f2 W (hf.sub hl)).2⟩ :
    (W.cell? ⟨p, 0, none⟩ = some (.int .i64 kind) ∧ W.cell? ⟨p, 1, none⟩ = some (.slice (some ⟨bT, oT, none⟩) nT cT) ∧ W.cell? ⟨p, 2, none⟩ = some (.slice (some ⟨bL, oL, none⟩) nL cL) ∧ (W.cell? ⟨bL, oL + k * 4, none⟩ = some (.string nm) ∧ W.cell? ⟨bL, oL + k * 4 + 1, none⟩ = some (.slice aU n cU) ∧ W.cell? ⟨bL, oL + k * 4 + 2, none⟩ = some (.int .i64 sz) ∧ W.cell? ⟨bL, oL + k * 4 + 3, none⟩ = some (.slice aC nc cC)) ∧ (W.cell? ⟨bT, oT + k * 3, none⟩ = some (.string s) ∧ W.cell? ⟨bT, oT + k * 3 + 1, none⟩ = some (.int .i64 t1) ∧ W.cell? ⟨bT, oT + k * 3 + 2, none⟩ = some (.int .i64 t2)))))
  clear f1 f2 sU sC
  go_enter Tryz.func30, Tryz.ntmps30
  go_upto_region 1 with (fail)
  generalize (w.alloc (.cells #[.int .i64 u1, .string u2, .int .i64 u3, .int .i64 u4] 64)).alloc (.cells #[.string ⟨#[]⟩, .string ⟨#[]⟩] 33) = w1 at *
  have hXd : Hid (RsSt w φ φ1 (w.heap.size + 1) #[.string ⟨#[]⟩, .string ⟨#[]⟩] 33 w1.drew) := Lib.hid (HX0.out.drewN 1)
  have hF1 : Fz φ1 w1 := hXd.out.inv.fz
  have hN : ∀ g, w1.heap.size ≤ g → φ1 g = none := fun g hg => hXd.out.inv.fz.new_none hg
  have hF0 : Fz φ1 w1.drew := hXd.out.inv.fz
  have hS9 := fun (W : World) (hf : Fz φ1 W) => (⟨(hbox.out φ1 W φ1.le_refl hf).2.1, (hbox.out φ1 W φ1.le_refl hf).2.2.1, (hbox.out φ1 W φ1.le_refl hf).2.2.2.1, (hbox.out φ1 W φ1.le_refl hf).2.2.2.2⟩ :
    W.cell? ⟨p, 1, none⟩ = some (.slice (some ⟨bT, oT, none⟩) nT cT) ∧ W.cell? ⟨p, 2, none⟩ = some (.slice (some ⟨bL, oL, none⟩) nL cL) ∧ (W.cell? ⟨bL, oL + k * 4, none⟩ = some (.string nm) ∧ W.cell? ⟨bL, oL + k * 4 + 1, none⟩ = some (.slice aU n cU) ∧ W.cell? ⟨bL, oL + k * 4 + 2, none⟩ = some (.int .i64 sz) ∧ W.cell? ⟨bL, oL + k * 4 + 3, none⟩ = some (.slice aC nc cC)) ∧ (W.cell? ⟨bT, oT + k * 3, none⟩ = some (.string s) ∧ W.cell? ⟨bT, oT + k * 3 + 1, none⟩ = some (.int .i64 t1) ∧ W.cell? ⟨bT, oT + k * 3 + 2, none⟩ = some (.int .i64 t2)))
  have hi1 : (0 : Int) ≤ (k : Int) := by omega
  have hi2 : (k : Int) < nL := by omega
  have hi3 : (k : Int) < nT := by omega
  apply wp_region_cutV (fun (i : Nat × Nat) => [(7, .pointer (some ⟨i.1, 0, none⟩)), (8, .pointer (some ⟨i.2, 0, none⟩)), (10, .pointer (some ⟨p, 0, none⟩)), (11, .pointer (some ⟨p, 0, none⟩)), (12, .pointer (some ⟨p, 2, none⟩)), (13, .slice (some ⟨bL, oL, none⟩) nL cL), (14, .int .i64 (k : Int)), (15, .pointer (some ⟨bL, oL + k * 4, none⟩)), (16, .agg #[.string nm, .slice aU n cU, .int .i64 sz, .slice aC nc cC]), (17, .pointer (some ⟨p, 0, none⟩)), (18, .pointer (some ⟨p, 0, none⟩)), (19, .pointer (some ⟨p, 1, none⟩)), (20, .slice (some ⟨bT, oT, none⟩) nT cT), (21, .int .i64 (k : Int)), (22, .pointer (some ⟨bT, oT + k * 3, none⟩)), (23, .agg #[.string s, .int .i64 t1, .int .i64 t2])])
    (fun i W => Bx2 w φ φ1 (w.heap.size + 1) i.1 (.cells #[.string nm, .slice aU n cU, .int .i64 sz, .slice aC nc cC] 137) i.2 (.cells #[.string s, .int .i64 t1, .int .i64 t2] 73) W)
  case h1 =>
    intro KK hKK
    go_region_held3 (fun W => W.cell? ⟨p, 1, none⟩ = some (.slice (some ⟨bT, oT, none⟩) nT cT) ∧ W.cell? ⟨p, 2, none⟩ = some (.slice (some ⟨bL, oL, none⟩) nL cL) ∧ (W.cell? ⟨bL, oL + k * 4, none⟩ = some (.string nm) ∧ W.cell? ⟨bL, oL + k * 4 + 1, none⟩ = some (.slice aU n cU) ∧ W.cell? ⟨bL, oL + k * 4 + 2, none⟩ = some (.int .i64 sz) ∧ W.cell? ⟨bL, oL + k * 4 + 3, none⟩ = some (.slice aC nc cC)) ∧ (W.cell? ⟨bT, oT + k * 3, none⟩ = some (.string s) ∧ W.cell? ⟨bT, oT + k * 3 + 1, none⟩ = some (.int .i64 t1) ∧ W.cell? ⟨bT, oT + k * 3 + 2, none⟩ = some (.int .i64 t2))) (first | with_reducible exact hS9 _ hF0 | ((with_reducible refine hS9 _ ?_); repeat (first | with_reducible exact hF0 | with_reducible exact hF1 | (with_reducible refine Fz.drew1 ?_) | (with_reducible refine Fz.alloc ?_ _) | (with_reducible refine Fz.setN ?_ hN (by simp) _))) | fail) (first | fail)
    all_goals
      refine onlyN_mk ?_
      have hk := fun x y W s => hKK.out (x, y) W s
      simp only [updA, List.foldl_cons, List.foldl_nil, List.setIfInBounds_toArray, List.set_cons_succ, List.set_cons_zero] at hk
      first
        | exact hk _ _ _ (Bx2.one HX0.out _ _)
        | exact hk _ _ _ (Bx2.two HX0.out _ _)
  case h2 =>
  rintro ⟨bx, bt⟩ W9 hF9
  simp only [updA, List.foldl_cons, List.foldl_nil, List.setIfInBounds_toArray, List.set_cons_succ, List.set_cons_zero]
  obtain ⟨φ2, hX2, hle2, hbx, hbt⟩ := hF9
  have HX2 := Lib.hid hX2
  have L2 := Lib.hid hle2
  have hfc := Lib.hid (fun (W : World) (hf : Fz φ2 W) => (⟨⟨(hf.blk hbx).cell 0, (hf.blk hbx).cell 1, (hf.blk hbx).cell 2, (hf.blk hbx).cell 3⟩, ⟨(hf.blk hbt).cell 0, (hf.blk hbt).cell 1, (hf.blk hbt).cell 2⟩, ⟨(hf.blk (hle2 _ _ HB1.out)).cell 0, (hf.blk (hle2 _ _ HB1.out)).cell 1, (hf.blk (hle2 _ _ HB1.out)).cell 2, (hf.blk (hle2 _ _ HB1.out)).cell 3⟩, (hf.blk (hle2 _ _ PL.out.box)).cell 0⟩ :
    (W.cell? ⟨bx, 0, none⟩ = some (.string nm) ∧ W.cell? ⟨bx, 1, none⟩ = some (.slice aU n cU) ∧ W.cell? ⟨bx, 2, none⟩ = some (.int .i64 sz) ∧ W.cell? ⟨bx, 3, none⟩ = some (.slice aC nc cC)) ∧ (W.cell? ⟨bt, 0, none⟩ = some (.string s) ∧ W.cell? ⟨bt, 1, none⟩ = some (.int .i64 t1) ∧ W.cell? ⟨bt, 2, none⟩ = some (.int .i64 t2)) ∧ (W.cell? ⟨w.heap.size, 0, none⟩ = some (.int .i64 u1) ∧ W.cell? ⟨w.heap.size, 1, none⟩ = some (.string u2) ∧ W.cell? ⟨w.heap.size, 2, none⟩ = some (.int .i64 u3) ∧ W.cell? ⟨w.heap.size, 3, none⟩ = some (.int .i64 u4)) ∧ W.cell? ⟨p, 0, none⟩ = some (.int .i64 kind)))
  have hbr : Hid (w.heap.size + 1 ≠ bx ∧ w.heap.size + 1 ≠ bt) := Lib.hid ⟨(fun e => by have := hX2.f; rw [e, hbx] at this; cases this), (fun e => by have := hX2.f; rw [e, hbt] at this; cases this)⟩
  have HP2 := Lib.hid (HP.out.mono hle2)
  clear hX2 hle2 hbx hbt HX0 hXd hN hF0 hF1 hS9 hbox hi1 hi2 hi3
  obtain ⟨⟨x0, x1, x2, x3⟩, ⟨y0, y1, y2⟩, ⟨z0, z1, z2, z3⟩, v0⟩ := hfc.out W9 HX2.out.inv.fz
  have hus := hok.out _ hu.out
  have hszb := szU_bd hok.out
  rw [hsz.out, hn.out] at hszb
  dsimp only at hus
  have hlo := ht.out.lo
  have hhi := ht.out.hi
  rw [hn.out] at hhi
  dsimp only at hlo hhi
  have hn0 : 0 < n := by rw [← hn.out]; exact List.length_pos_of_mem hu.out
  have r0 : W9.cell? ⟨w.heap.size + 1, 0, none⟩ = some (.string ⟨#[]⟩) := HX2.out.k.cell 0
  have r1 : W9.cell? ⟨w.heap.size + 1, 1, none⟩ = some (.string ⟨#[]⟩) := HX2.out.k.cell 1
  have r2 := HX2.out.k.frz 0
  have r3 := HX2.out.k.frz 1
  rcases hk with rfl | rfl | rfl
  · have hr2 : Hid (shtT ((t1 : Rat) / (((n : Int)) : Rat)) = (S, T)) := Lib.hid (by rw [← hn.out]; exact hr.out)
    clear r0 r1 r2 r3
    go_wp2_with (go_at_call 53; (with_reducible refine (frac_q hM (by omega) (by omega) (by omega) (by omega) HX2.out.inv.fz HP2.out hr2).mono ?_); rintro e w3 ⟨rfl, hb3⟩; have HX3 := Lib.hid (HX2.out.callB hb3); clear hb3; have r0 : w3.cell? ⟨w.heap.size + 1, 0, none⟩ = some (.string ⟨#[]⟩) := HX3.out.k.cell 0; have r1 : w3.cell? ⟨w.heap.size + 1, 1, none⟩ = some (.string ⟨#[]⟩) := HX3.out.k.cell 1; have r2 := HX3.out.k.frz 0; have r3 := HX3.out.k.frz 1)
    have hZ := Lib.hid ((HX3.out.set 0 (.string S)).set 1 (.string T))
    have e0 : _ = some (Value.string S) := hZ.out.k.cell 0
    have e1 : _ = some (Value.string T) := hZ.out.k.cell 1
    (try simp only [Exit.inBlock, Exit.then])
    refine bodyPost_ret (v := .agg #[.string S, .string T]) (by simp [results, Tryz.results30, go_sem, e0, e1]) rfl ?_
    exact ⟨rfl, hZ.out.inv.bel⟩
  · have hmu : 0 ≤ t1 * u4 ∧ t1 * u4 ≤ 5000000000 := ⟨Int.mul_nonneg hlo (by omega), Int.le_trans (Int.mul_le_mul (show t1 ≤ 5000 by omega) hus.2 (by omega) (by decide)) (by decide)⟩
    have hw : IntKind.i64.wrap (t1 * u4) = t1 * u4 := IntWalk.i64_in _ (by omega)
    have hr2 : Hid (shtT (((t1 * u4 : Int) : Rat) / ((sz : Int) : Rat)) = (S, T)) := Lib.hid (by rw [← hsz.out]; exact hr.out)
    clear r0 r1 r2 r3
    go_wp2_with (go_at_call 53; (with_reducible refine (frac_q hM (by omega) (by omega) (by omega) (by omega) HX2.out.inv.fz HP2.out hr2).mono ?_); rintro e w3 ⟨rfl, hb3⟩; have HX3 := Lib.hid (HX2.out.callB hb3); clear hb3; have r0 : w3.cell? ⟨w.heap.size + 1, 0, none⟩ = some (.string ⟨#[]⟩) := HX3.out.k.cell 0; have r1 : w3.cell? ⟨w.heap.size + 1, 1, none⟩ = some (.string ⟨#[]⟩) := HX3.out.k.cell 1; have r2 := HX3.out.k.frz 0; have r3 := HX3.out.k.frz 1)
    have hZ := Lib.hid ((HX3.out.set 0 (.string S)).set 1 (.string T))
    have e0 : _ = some (Value.string S) := hZ.out.k.cell 0
    have e1 : _ = some (Value.string T) := hZ.out.k.cell 1
    (try simp only [Exit.inBlock, Exit.then])
    refine bodyPost_ret (v := .agg #[.string S, .string T]) (by simp [results, Tryz.results30, go_sem, e0, e1]) rfl ?_
    exact ⟨rfl, hZ.out.inv.bel⟩
  · obtain ⟨cs, hcs⟩ : ∃ cs, Hid ((cnsL us).map (cluF us) = cs) := ⟨_, Lib.hid rfl⟩
    have hcl : Hid (cs.length = nc) := Lib.hid (by rw [← hcs.out, List.length_map, hnc.out])
    have hu3 : u3 ∈ cnsL us := mem_cnsL.2 ⟨_, hu.out, rfl⟩
    obtain ⟨v, hv0⟩ := fnd_ex (fun i => (cs.getD i clu0).1 = u3) nc
    obtain ⟨j, rfl, hj, hpj⟩ := hv0.at (by
      obtain ⟨i, hi, e⟩ := List.getElem_of_mem hu3
      rw [hnc.out] at hi
      refine ⟨i, hi, ?_⟩
      rw [getD_elem0 _ _ _ (by rw [hcl.out]; exact hi)]
      have := hcs.out
      subst this
      rw [List.getElem_map, e]; rfl)
    have hvj := Lib.hid hv0
    have hel : cs.getD j clu0 = (u3, szU (clU us u3), clU us u3) := by
      have e0 : ∃ c, cs.getD j clu0 = cluF us c := by
        rw [getD_elem0 _ _ _ (by rw [hcl.out]; exact hj)]
        have := hcs.out
        subst this
        exact ⟨_, List.getElem_map _⟩
      obtain ⟨c, hc⟩ := e0
      rw [hc] at hpj ⊢
      have : c = u3 := hpj
      rw [this]; rfl
    rw [hcs.out] at SC
    have SC2 := Lib.hid (SC.out.mono L2.out)
    obtain ⟨bC, oC, rfl, f⟩ := SC2.out.cluD hcl hj
    obtain ⟨aV, cV, sV, f⟩ := f j hj
    rw [hel] at f sV
    dsimp only at f
    have hcu : (u1, u2, u3, u4) ∈ clU us u3 := List.mem_filter.2 ⟨hu.out, by simp⟩
    have hz1 := szU_bd (l := clU us u3) (fun u hu => hok.out u (clU_mem hu))
    have hz2 := clU_len us u3
    have hz3 := List.length_pos_of_mem hcu
    have hst := ht.out.st rfl
    have hst2 := hst.2 u3 hu3
    rw [hn.out] at hz2
    have hr2 : Hid (shtT (((t1 * szU (clU us u3) : Int) : Rat) / ((szU us : Int) : Rat) * ((t2 : Rat) / ((((clU us u3).length : Int)) : Rat))) = (S, T)) := Lib.hid hr.out
    rw [hsz.out] at hr2
    clear hpj hv0 hel hu3 sV hcu
    generalize szU (clU us u3) = cz at *
    generalize (clU us u3).length = nv at *
    dsimp only at hst hst2
    have FC := Lib.hid (fun W hf => (f W hf).2)
    clear f
    have hmu : 0 ≤ t1 * cz ∧ t1 * cz ≤ 25000000000000 := ⟨Int.mul_nonneg hlo (by omega), Int.le_trans (Int.mul_le_mul (show t1 ≤ 5000 by omega) (show cz ≤ 5000000000 by omega) (by omega) (by decide)) (by decide)⟩
    have hw : IntKind.i64.wrap (t1 * cz) = t1 * cz := IntWalk.i64_in _ (by omega)
    obtain ⟨⟨S1, T1⟩, hr3⟩ : ∃ r : Rti, Hid (shtT (((t1 * cz : Int) : Rat) / ((sz : Int) : Rat)) = r) := ⟨_, Lib.hid rfl⟩
    obtain ⟨⟨S2, T2⟩, hr4⟩ : ∃ r : Rti, Hid (shtT ((t2 : Rat) / (((nv : Int)) : Rat)) = r) := ⟨_, Lib.hid rfl⟩
    have q1 := Lib.hid (QuF.of (a := t1 * cz) (b := sz) (by omega) (by omega) (by omega))
    have q2 := Lib.hid (QuF.of (a := t2) (b := (nv : Int)) (by omega) (by omega) (by omega))
    have q3 : Hid (QuF (((t1 * cz : Int) : Rat) / ((sz : Int) : Rat) * ((t2 : Rat) / (((nv : Int)) : Rat)))) := Lib.hid ⟨_, _, (Qu.of (a := t1 * cz) (b := sz) (A := 100000000000000) (B := 100000000000000) (by omega) (by omega) (by omega)).mul (Qu.of (a := t2) (b := (nv : Int)) (A := 100000000000000) (B := 100000000000000) (by omega) (by omega) (by omega)), by decide, by decide⟩
    have hbn : Hid ((0 ≤ t1 * cz ∧ t1 * cz ≤ 100000000000000 ∧ 0 < sz ∧ sz ≤ 100000000000000) ∧ (0 ≤ t2 ∧ t2 ≤ 100000000000000 ∧ 0 < (nv : Int) ∧ (nv : Int) ≤ 100000000000000)) := Lib.hid (by omega)
    have hi1 : (j : Int) < nc := by omega
    clear hst hst2 hz1 hz2 hz3 hmu hszb hus hlo hhi x0 x1 x2 x3 y0 y1 y2 z0 z1 z2 z3 r0 r1 r2 r3
    go_upto_region 7 with (fail)
    have HXd : Hid (RsSt w φ φ2 (w.heap.size + 1) #[.string ⟨#[]⟩, .string ⟨#[]⟩] 33 W9.drew) := Lib.hid (HX2.out.drewN 1)
    have HXa : Hid (RsSt w φ φ2 (w.heap.size + 1) #[.string ⟨#[]⟩, .string ⟨#[]⟩] 33 (W9.alloc (.cells #[.int .i64 0, .int .i64 0, .slice none 0 0] 141)).drew) := Lib.hid ((HX2.out.callB ((Below.refl _ _).alloc (Nat.le_refl _) _)).drewN 1)
    have HYa : Hid (RsSt w φ φ2 W9.heap.size #[.int .i64 0, .int .i64 0, .slice none 0 0] 141 (W9.alloc (.cells #[.int .i64 0, .int .i64 0, .slice none 0 0] 141)).drew) := Lib.hid ((RsSt.start HX2.out.inv _ _).drewN 1)
    have hF1 : Fz φ2 W9 := HX2.out.inv.fz
    have hN : ∀ g, W9.heap.size ≤ g → φ2 g = none := fun g hg => HX2.out.inv.fz.new_none hg
    have hnb : Hid (W9.heap.size ≠ w.heap.size + 1) := Lib.hid (by have := HX2.out.k.lt; omega)
    have hS7 := fun (W : World) (hf : Fz φ2 W) => (⟨(hfc.out W hf).1, (hfc.out W hf).2.2.1, FC.out W hf⟩ :
      (W.cell? ⟨bx, 0, none⟩ = some (.string nm) ∧ W.cell? ⟨bx, 1, none⟩ = some (.slice aU n cU) ∧ W.cell? ⟨bx, 2, none⟩ = some (.int .i64 sz) ∧ W.cell? ⟨bx, 3, none⟩ = some (.slice (some ⟨bC, oC, none⟩) nc cC)) ∧ (W.cell? ⟨w.heap.size, 0, none⟩ = some (.int .i64 u1) ∧ W.cell? ⟨w.heap.size, 1, none⟩ = some (.string u2) ∧ W.cell? ⟨w.heap.size, 2, none⟩ = some (.int .i64 u3) ∧ W.cell? ⟨w.heap.size, 3, none⟩ = some (.int .i64 u4)) ∧ (W.cell? ⟨bC, oC + j * 3, none⟩ = some (.int .i64 u3) ∧ W.cell? ⟨bC, oC + j * 3 + 1, none⟩ = some (.int .i64 cz) ∧ W.cell? ⟨bC, oC + j * 3 + 2, none⟩ = some (.slice aV nv cV)))
    apply wp_region_cutV (fun (i : Nat) => [(46, .pointer (some ⟨bx, 3, none⟩)), (47, .slice (some ⟨bC, oC, none⟩) nc cC), (48, .agg #[.string nm, .slice aU n cU, .int .i64 sz, .slice (some ⟨bC, oC, none⟩) nc cC]), (49, .agg #[.int .i64 u1, .string u2, .int .i64 u3, .int .i64 u4]), (50, .int .i64 (j : Int)), (51, .pointer (some ⟨bC, oC + j * 3, none⟩)), (52, .agg #[.int .i64 u3, .int .i64 cz, .slice aV nv cV]), (9, .pointer (some ⟨i, 0, none⟩))])
      (fun i W => C2S w φ φ2 (w.heap.size + 1) i #[.int .i64 u3, .int .i64 cz, .slice aV nv cV] W)
    case h1 =>
      intro KK hKK
      go_region_held3 (fun W => (W.cell? ⟨bx, 0, none⟩ = some (.string nm) ∧ W.cell? ⟨bx, 1, none⟩ = some (.slice aU n cU) ∧ W.cell? ⟨bx, 2, none⟩ = some (.int .i64 sz) ∧ W.cell? ⟨bx, 3, none⟩ = some (.slice (some ⟨bC, oC, none⟩) nc cC)) ∧ (W.cell? ⟨w.heap.size, 0, none⟩ = some (.int .i64 u1) ∧ W.cell? ⟨w.heap.size, 1, none⟩ = some (.string u2) ∧ W.cell? ⟨w.heap.size, 2, none⟩ = some (.int .i64 u3) ∧ W.cell? ⟨w.heap.size, 3, none⟩ = some (.int .i64 u4)) ∧ (W.cell? ⟨bC, oC + j * 3, none⟩ = some (.int .i64 u3) ∧ W.cell? ⟨bC, oC + j * 3 + 1, none⟩ = some (.int .i64 cz) ∧ W.cell? ⟨bC, oC + j * 3 + 2, none⟩ = some (.slice aV nv cV))) (first | ((with_reducible refine hS7 _ ?_); repeat (first | with_reducible exact hF1 | with_reducible assumption | (with_reducible refine Fz.drew1 ?_) | (with_reducible refine Fz.alloc ?_ _) | (with_reducible refine Fz.setN ?_ hN (by simp) _))) | fail) (first
        | (go_at_call 87; (first
            | ((with_reducible refine (cluster_any HXd.out.inv.fz SC2.out hcl hvj).mono ?_); rintro e w10 ⟨rfl, hb10⟩; have HX10 := Lib.hid (HXd.out.callB hb10); have HF10 : Fz φ2 w10 := HX10.out.inv.fz; clear hb10)
            | ((with_reducible refine (cluster_any HXa.out.inv.fz SC2.out hcl hvj).mono ?_); rintro e w10 ⟨rfl, hb10⟩; have HX10 := Lib.hid (HXa.out.callB hb10); have HY10 := Lib.hid (HYa.out.callB hb10); have HF10 : Fz φ2 w10 := HX10.out.inv.fz; clear hb10; have g0 : w10.cell? ⟨W9.heap.size, 0, none⟩ = some (.int .i64 0) := HY10.out.k.cell 0; have g1 : w10.cell? ⟨W9.heap.size, 1, none⟩ = some (.int .i64 0) := HY10.out.k.cell 1; have g2 : w10.cell? ⟨W9.heap.size, 2, none⟩ = some (.slice none 0 0) := HY10.out.k.cell 2; have g3 := HY10.out.k.frz 0; have g4 := HY10.out.k.frz 1; have g5 := HY10.out.k.frz 2)))
        | fail)
      all_goals
        refine onlyN_mk ?_
        have hk := fun x W s => hKK.out x W s
        simp only [updA, List.foldl_cons, List.foldl_nil, List.setIfInBounds_toArray, List.set_cons_succ, List.set_cons_zero] at hk
        first
          | exact hk _ _ (C2S.one HX10 _)
          | exact hk _ _ (C2S.two HX10 HY10 hnb _ _ _)
    case h2 =>
    intro b9 W11 hC11
    simp only [updA, List.foldl_cons, List.foldl_nil, List.setIfInBounds_toArray, List.set_cons_succ, List.set_cons_zero]
    have HC11 := Lib.hid hC11
    clear hC11 hS7 hN hF1 HXd HXa HYa hnb HX2
    have hCd : Hid (C2S w φ φ2 (w.heap.size + 1) b9 #[.int .i64 u3, .int .i64 cz, .slice aV nv cV] W11.drew) := Lib.hid (HC11.out.callB (bdrewN (Below.refl _ W11) 1))
    have hn1 : w.heap.size + 1 ≠ bt := hbr.out.2
    have hn2 : w.heap.size + 1 ≠ bx := hbr.out.1
    have hn3 : w.heap.size + 1 ≠ b9 := fun e => HC11.out.ne e.symm
    have hS8 := fun (W : World) (h : Hid (C2S w φ φ2 (w.heap.size + 1) b9 #[.int .i64 u3, .int .i64 cz, .slice aV nv cV] W)) => (⟨(hfc.out W h.out.x.inv.fz).2.1.2.1, (hfc.out W h.out.x.inv.fz).2.1.2.2, (hfc.out W h.out.x.inv.fz).1.2.2.1, h.out.y.k.cell 1, h.out.y.k.cell 2⟩ :
      W.cell? ⟨bt, 1, none⟩ = some (.int .i64 t1) ∧ W.cell? ⟨bt, 2, none⟩ = some (.int .i64 t2) ∧ W.cell? ⟨bx, 2, none⟩ = some (.int .i64 sz) ∧ W.cell? ⟨b9, 1, none⟩ = some (.int .i64 cz) ∧ W.cell? ⟨b9, 2, none⟩ = some (.slice aV nv cV))
    go_upto_region 8 with (fail)
    go_region_held3 (fun W => W.cell? ⟨bt, 1, none⟩ = some (.int .i64 t1) ∧ W.cell? ⟨bt, 2, none⟩ = some (.int .i64 t2) ∧ W.cell? ⟨bx, 2, none⟩ = some (.int .i64 sz) ∧ W.cell? ⟨b9, 1, none⟩ = some (.int .i64 cz) ∧ W.cell? ⟨b9, 2, none⟩ = some (.slice aV nv cV)) (first | with_reducible exact hS8 _ (by with_reducible assumption) | (obtain ⟨m0, m1, m2, m3, m4⟩ := hS8 wz hCz; with_reducible exact ⟨keepT m0 hn1, keepT m1 hn1, keepT m2 hn2, keepT m3 hn3, keepT m4 hn3⟩) | fail) (first
      | (go_at_call 53; (first
          | ((with_reducible refine (frac_S hM hbn.out.1 HP2 hr3 (by with_reducible assumption)).mono ?_); rintro e wq ⟨rfl, hCq⟩)
          | ((with_reducible refine (frac_S hM hbn.out.2 HP2 hr4 (by with_reducible assumption)).mono ?_); rintro e wq ⟨rfl, hCq⟩)))
      | (go_at_call 42; (with_reducible refine (times_S hM q1 q2 q3 hr3 hr4 hr2 HP2 (by with_reducible assumption)).mono ?_); rintro e wz ⟨rfl, hCz⟩; have r0 : wz.cell? ⟨w.heap.size + 1, 0, none⟩ = some (.string ⟨#[]⟩) := hCz.out.x.k.cell 0; have r1 : wz.cell? ⟨w.heap.size + 1, 1, none⟩ = some (.string ⟨#[]⟩) := hCz.out.x.k.cell 1; have r2 := hCz.out.x.k.frz 0; have r3 := hCz.out.x.k.frz 1)
      | fail)
    all_goals
      have HX3 := Lib.hid hCz.out.x
      go_wp2
      have hZ := Lib.hid ((HX3.out.set 0 (.string S)).set 1 (.string T))
      have e0 : _ = some (Value.string S) := hZ.out.k.cell 0
      have e1 : _ = some (Value.string T) := hZ.out.k.cell 1
      (try simp only [Exit.inBlock, Exit.then])
      refine bodyPost_ret (v := .agg #[.string S, .string T]) (by simp [results, Tryz.results30, go_sem, e0, e1]) rfl ?_
      exact ⟨rfl, hZ.out.inv.bel⟩
end Go.Proofs.YtnlhalnjbkpdnaaGreatDoor

namespace Go.Proofs.YtnlhalnjbkpdnaaGreatDoor
open Go.RowKit Go.Sort
set_option linter.unusedVariables false
set_option linter.unusedSimpArgs false
/-- What a design that fits says. -/
structure DsOk (kind : Int) (ts : List Tak) (l : List Unt) : Prop where
  frm : frmU l = 0
  kd : kind = 1 ∨ kind = 2 ∨ kind = 3
  nms : ts.map (·.1) = nmsL l
  tak : ∀ s, s ∈ nmsL l → TkOk kind (tkOf ts s) (stU l s)
  at_ : ∀ s, s ∈ nmsL l → ∃ j, j < (nmsL l).length ∧ ts.getD j tak0 = tkOf ts s ∧ (tkOf ts s).1 = s ∧ ((nmsL l).map (lyrF l)).getD j lyr0 = lyrF l s ∧ (nmsL l).getD j ByteArray.empty = s
theorem ds_ok {kind : Int} {ts : List Tak} {l : List Unt} (h : dsgF kind ts l = 0) : DsOk kind ts l := by
  unfold dsgF at h
  split at h
  · next h1 => exact absurd h h1
  next h1 =>
  have h1 : frmU l = 0 := Classical.byContradiction h1
  split at h
  · cases h
  next h2 =>
  split at h
  · cases h
  next h3 =>
  have h3 : ts.map (·.1) = nmsL l := Classical.byContradiction h3
  have hk := kind_of (Bool.eq_false_iff.2 h2)
  have hat : ∀ s, s ∈ nmsL l → ∃ j, j < (nmsL l).length ∧ ts.getD j tak0 = tkOf ts s ∧ (tkOf ts s).1 = s ∧ ((nmsL l).map (lyrF l)).getD j lyr0 = lyrF l s ∧ (nmsL l).getD j ByteArray.empty = s := by
    intro s hs
    obtain ⟨j, hj, e⟩ := List.getElem_of_mem hs
    have e2 : (nmsL l).getD j ByteArray.empty = s := by rw [getD_elem0 _ _ _ hj]; exact e
    have e3 := tk_at h3 (nms_nodup l) hj
    rw [e2] at e3
    have hjt : j < ts.length := by rw [← h3, List.length_map] at hj; exact hj
    refine ⟨j, hj, e3.symm, ?_, ?_, e2⟩
    · rw [e3, getD_elem0 _ _ _ hjt, ← e]
      have : ts[j].1 = (ts.map (·.1))[j]'(by rw [List.length_map]; exact hjt) := by rw [List.getElem_map]
      rw [this]
      congr 1
    · rw [lyr_at rfl rfl hj, e2]
  refine ⟨h1, hk, h3, fun s hs => ?_, hat⟩
  obtain ⟨j, hj, e1, e2, _, _⟩ := hat s hs
  have hjt : j < ts.length := by rw [← h3, List.length_map] at hj; exact hj
  have := scan_all _ h j hjt
  rw [e1, e2] at this
  exact tk_ok (stU_ne.2 hs) this
theorem rep_rti (φ : Phi) (S T : ByteArray) : Rep.rep φ ((S, T) : Rti) [.string S, .string T] := ⟨[.string S], [.string T], rfl, rfl, rfl⟩
theorem app_blk {w w' : World} {o : Obj} {g : Nat} {cs : Array Value} {T : TypeId} {a : Option Addr} (h : Blk w g cs T) (hg : (w.alloc o).grownBy w' (a.map (·.block))) (hne : Hid (∀ x, a = some x → x.block ≠ g)) : Blk w' g cs T := by
  have h2 := h.alloc o
  refine (hg.block g h2.lt (fun e => ?_)).trans h2
  cases a with
  | none => cases e
  | some x => exact hne.out x rfl (by simpa using e.symm)
set_option maxRecDepth 100000 in
set_option maxHeartbeats 4000000 in
theorem PChances_any {M : Nat} (hM : Hid (MOk M)) {w : World} {kind : Int} {aT : Option Addr} {cT nT : Nat} {ts : List Tak} {a : Option Addr} {c n : Nat} {l : List Unt} {φ : Phi} (hφ : Fz φ w) (hp : PowP φ) (st : SlV φ aT cT ts) (hnT : Hid (ts.length = nT)) (hmT : nT ≤ 9223372036854775807) (sl : SlV φ a c l) (hn : Hid (l.length = n)) (hm : n ≤ 9223372036854775807) (hs : Hid (∀ u ∈ l, u.2.1.size ≤ reachBytes)) :
    Calls Tryz.prog 7 #[.agg #[.int .i64 kind, .slice aT nT cT], .slice a n c] w (SlPost (chsR kind ts l) φ w) := by
  have hI0 := Lib.hid ((Inv.start hφ).alloc (.cells #[.int .i64 kind, .slice aT nT cT] 24))
  have ST := Lib.hid st
  have SL := Lib.hid sl
  have HP := Lib.hid hp
  obtain ⟨q, hq⟩ : ∃ q, Hid (dsgF kind ts l = q) := ⟨_, Lib.hid rfl⟩
  clear hφ st sl hp
  by_cases hq0 : q = 0
  case neg =>
    have g0 : ((q : Int) != 0) = true := by simp [hq0]
    have hR : Hid (chsR kind ts l = ([], q)) := Lib.hid (by unfold chsR; rw [hq.out, if_pos hq0])
    clear hq0
    go_enter Tryz.func7, Tryz.ntmps7
    go_wp2_with (go_at_call 29; (with_reducible refine (planOf_any hI0.out.fz ST.out hnT hmT SL.out hn hm hs hq).mono ?_); rintro e w1 ⟨p, φ1, rfl, hi1, hp⟩; have hI1 := Lib.hid (hI0.out.call hi1); clear hi1 hp)
    go_ret2
    exact ⟨none, 0, φ1, by rw [hR.out]; rfl, hI1.out, by rw [hR.out]; exact SlV.empty _⟩
  subst hq0
  have hD := Lib.hid (ds_ok hq.out)
  have hok := Lib.hid (frm_ok hD.out.frm)
  have hl : n ≤ 5000 := by have := hok.out.1; rw [hn.out] at this; exact this
  have hR : Hid (chsR kind ts l = (l.map (fun u => shtT (chR kind (tkOf ts u.2.1) (stU l u.2.1) u)), 0)) := Lib.hid (by unfold chsR; rw [hq.out, if_neg (by simp)])
  have hk3 := Lib.hid hD.out.kd
  obtain ⟨m, hmn⟩ : ∃ m, Hid ((nmsL l).length = m) := ⟨_, Lib.hid rfl⟩
  have hTm : Hid (nT = m) := Lib.hid (by rw [← hnT.out, ← hmn.out, ← hD.out.nms, List.length_map])
  obtain ⟨ls, hls⟩ : ∃ ls, Hid ((nmsL l).map (lyrF l) = ls) := ⟨_, Lib.hid rfl⟩
  have hml : Hid (ls.length = m) := Lib.hid (by rw [← hls.out, List.length_map, hmn.out])
  go_enter Tryz.func7, Tryz.ntmps7
  go_wp2_with (go_at_call 29; (with_reducible refine (planOf_any hI0.out.fz ST.out hnT hmT SL.out hn hm hs hq).mono ?_); rintro e w1 ⟨p, φ1, rfl, hi1, hp⟩; have hI1 := Lib.hid (hI0.out.call hi1); have LP := Lib.hid hi1.le; clear hi1; have hpl := hp)
  rcases hpl with ⟨h, _⟩ | ⟨_, bp, aL, cL, rfl, hbp, sL⟩
  · exact absurd rfl h
  rw [hmn.out] at hbp
  rw [hls.out] at sL
  have PL : Hid (PlAt φ1 bp kind aT nT cT ts aL m cL ls) := Lib.hid ⟨hbp, ST.out.mono LP.out, sL, hnT.out, hml.out⟩
  have SL1 := Lib.hid (SL.out.mono LP.out)
  have HP1 := Lib.hid (HP.out.mono LP.out)
  clear hbp sL hp
  have hS0 : Hid (OwSt w1 φ1 33 none 0 ([] : List Rti) w1) := Lib.hid ⟨Inv.start hI1.out.fz, Own.nil _ _ _ _⟩
  go_loopw [8, 22] (fun o i wr => ∃ (k : Nat) (ao : Option Addr) (co : Nat) (xs : List Rti), k ≤ n ∧ i = .int .i64 k ∧ o = .slice ao xs.length co ∧ Hid ((l.take k).map (fun u => shtT (chR kind (tkOf ts u.2.1) (stU l u.2.1) u)) = xs) ∧ Hid (OwSt w1 φ1 33 ao co xs wr)) (fun _ i _ => n - (intOf i).toNat)
  case atStart => exact ⟨0, none, 0, [], Nat.zero_le _, rfl, rfl, Lib.hid rfl, hS0⟩
  case round =>
    clear hS0
    obtain ⟨k, ao, co, xs, hk, rfl, rfl, hxs, hS⟩ := hrel
    have hxl : xs.length ≤ 5000 := by rw [← hxs.out, List.length_map, List.length_take]; omega
    by_cases hlt : k < n
    · obtain ⟨b, off, rfl, f⟩ := SL1.out.untD hn hlt
      obtain ⟨hb, c1, c2, c3, c4⟩ := f k hlt wr hS.out.inv.fz
      have htk := Lib.hid (take_snocD unt0 l k n hn.out hlt)
      have hmu : l.getD k unt0 ∈ l := by rw [getD_elem0 _ _ _ (by rw [hn.out]; exact hlt)]; exact List.getElem_mem _
      have hnx : Hid ((l.take (k + 1)).map (fun u => shtT (chR kind (tkOf ts u.2.1) (stU l u.2.1) u)) = xs ++ [shtT (chR kind (tkOf ts (l.getD k unt0).2.1) (stU l (l.getD k unt0).2.1) (l.getD k unt0))]) := Lib.hid (by rw [htk.out, List.map_append, hxs.out]; rfl)
      clear f htk
      generalize l.getD k unt0 = U at *
      obtain ⟨u1, u2, u3, u4⟩ := U
      dsimp only at c1 c2 c3 c4 hnx
      obtain ⟨j, hj, e1, e2, e3, e4⟩ := hD.out.at_ u2 (mem_nmsL.2 ⟨_, hmu, rfl⟩)
      have htk := hD.out.tak u2 (mem_nmsL.2 ⟨_, hmu, rfl⟩)
      rw [hls.out] at e3
      rw [hmn.out] at hj
      generalize hT0 : tkOf ts u2 = tk at *
      obtain ⟨s, t1, t2⟩ := tk
      dsimp only at e2
      obtain ⟨us, hus⟩ : ∃ us, Hid (stU l u2 = us) := ⟨_, Lib.hid rfl⟩
      rw [hus.out] at htk hnx
      have hu : Hid ((u1, u2, u3, u4) ∈ us) := Lib.hid (by rw [← hus.out]; exact List.mem_filter.2 ⟨hmu, by simp⟩)
      obtain ⟨nu, hnu⟩ : ∃ nu, Hid (us.length = nu) := ⟨_, Lib.hid rfl⟩
      have hul : nu ≤ 5000 := by rw [← hnu.out, ← hus.out]; exact Nat.le_trans (stU_len l u2) (by rw [hn.out]; exact hl)
      have hoku : Hid (∀ u ∈ us, 1 ≤ u.2.2.2 ∧ u.2.2.2 ≤ 1000000) := Lib.hid (fun u hu => by rw [← hus.out] at hu; exact (hok.out.2.2 u (stU_mem hu)).2.2)
      have hL : Hid (ls.getD j lyr0 = (u2, us, szU us, (cnsL us).map (cluF us))) := Lib.hid (by rw [e3, ← hus.out]; rfl)
      have hT : Hid (ts.getD j tak0 = (s, t1, t2)) := Lib.hid e1
      have HTK := Lib.hid htk
      obtain ⟨⟨S, T⟩, hr⟩ : ∃ r : Rti, Hid (shtT (chR kind (s, t1, t2) us (u1, u2, u3, u4)) = r) := ⟨_, Lib.hid rfl⟩
      rw [hr.out] at hnx
      obtain ⟨v, hv0⟩ := fnd_ex (fun i => (ls.getD i lyr0).1 = u2) m
      have hvj : v = (j : Int) := by
        obtain ⟨i, rfl, hi, hpi⟩ := hv0.at ⟨j, hj, by rw [e3]; rfl⟩
        have h1 : (nmsL l).getD i ByteArray.empty = u2 := by
          have : ls.getD i lyr0 = lyrF l ((nmsL l).getD i ByteArray.empty) := by rw [← hls.out]; exact lyr_at rfl hmn.out hi
          rw [this] at hpi
          exact hpi
        have hi2 : i < (nmsL l).length := by rw [hmn.out]; exact hi
        have hj2 : j < (nmsL l).length := by rw [hmn.out]; exact hj
        rw [getD_elem0 _ _ _ hi2] at h1
        rw [getD_elem0 _ _ _ hj2] at e4
        rcases Nat.lt_trichotomy i j with q | q | q
        · exact absurd (h1.trans e4.symm) (List.pairwise_iff_getElem.1 (nms_nodup l) i j hi2 hj2 q)
        · rw [q]
        · exact absurd (e4.trans h1.symm) (List.pairwise_iff_getElem.1 (nms_nodup l) j i hj2 hi2 q)
      subst hvj
      have HV := Lib.hid hv0
      have hjT : j < nT := by rw [hTm.out]; exact hj
      clear hv0 e1 e2 e3 e4 htk hmu hT0
      obtain ⟨φ3, hle3, hi3, hb3⟩ := (Inv.start hS.out.inv.fz).frz (.cells #[.int .i64 u1, .string u2, .int .i64 u3, .int .i64 u4] 64)
      have HB3 := Lib.hid hb3
      have L3 := Lib.hid hle3
      have HF3 := Lib.hid hi3.fz
      have PL3 := Lib.hid (PL.out.mono hle3)
      have HP3 := Lib.hid (HP1.out.mono hle3)
      have hS2 := Lib.hid (OwSt.alloc hS.out (.cells #[.int .i64 u1, .string u2, .int .i64 u3, .int .i64 u4] 64))
      have hfc := Lib.hid (fun (W : World) (hf : Fz φ3 W) => (⟨box_cell HB3.out φ3.le_refl hf 0, box_cell HB3.out φ3.le_refl hf 1, box_cell HB3.out φ3.le_refl hf 2, box_cell HB3.out φ3.le_refl hf 3⟩ : W.cell? ⟨wr.heap.size, 0, none⟩ = some (.int .i64 u1) ∧ W.cell? ⟨wr.heap.size, 1, none⟩ = some (.string u2) ∧ W.cell? ⟨wr.heap.size, 2, none⟩ = some (.int .i64 u3) ∧ W.cell? ⟨wr.heap.size, 3, none⟩ = some (.int .i64 u4)))
      have hnb : Hid (∀ x, ao = some x → x.block ≠ wr.heap.size) := Lib.hid (fun x hx e => by have := (hS.out.own.lt x hx).2; omega)
      clear hle3 hi3 hb3
      go_upto_region 8 with (fail)
      clear c1 c2 c3 c4 hb hS
      generalize wr.alloc (.cells #[.int .i64 u1, .string u2, .int .i64 u3, .int .i64 u4] 64) = wj at *
      generalize wr.heap.size = bj at *
      have hOd : Hid (OwSt w1 φ1 33 ao co xs wj.drew) := Lib.hid (hS2.out.callB (bdrewN (Below.refl _ wj) 1))
      have HFd : Fz φ3 wj.drew := HF3.out
      clear hS2
      obtain ⟨y0, y1, y2, y3⟩ := hfc.out wj.drew HFd
      go_region_held_law (fun W => W.cell? ⟨bj, 0, none⟩ = some (.int .i64 u1) ∧ W.cell? ⟨bj, 1, none⟩ = some (.string u2) ∧ W.cell? ⟨bj, 2, none⟩ = some (.int .i64 u3) ∧ W.cell? ⟨bj, 3, none⟩ = some (.int .i64 u4)) (first | with_reducible exact ⟨y0, y1, y2, y3⟩ | with_reducible exact ⟨by assumption, by assumption, by assumption, by assumption⟩ | with_reducible exact ⟨keepAP (by with_reducible assumption), keepAP (by with_reducible assumption), keepAP (by with_reducible assumption), keepAP (by with_reducible assumption)⟩ | fail) (first
        | (refine step_appF (α := Rti) (by rfl) _ _ _ (by rfl) slRti (hO6.out.alloc _).inv ao co xs (by rfl) (hO6.out.alloc _).own ⟨w6.heap.size, 0, none⟩ 1 [(S, T)] [.string S, .string T] 1 (by rfl) (by rfl) (RepL.single (rep_rti φ1 S T)) (new_cells w6 #[.string S, .string T] 33) (by show (xs.length + 1) * 32 ≤ 140737488355328; omega) ?_; intro a9 c9 w9 hi9 ho9 hg9 hf9; have HF9 := Lib.hid (And.intro hi9 ho9); have K9 := app_blk (HF6.blk HB3.out) hg9 hnb; obtain ⟨k0, k1, k2, k3⟩ : w9.cell? ⟨bj, 0, none⟩ = some (.int .i64 u1) ∧ w9.cell? ⟨bj, 1, none⟩ = some (.string u2) ∧ w9.cell? ⟨bj, 2, none⟩ = some (.int .i64 u3) ∧ w9.cell? ⟨bj, 3, none⟩ = some (.int .i64 u4) := ⟨K9.cell 0, K9.cell 1, K9.cell 2, K9.cell 3⟩; clear hi9 ho9 hg9 hf9)
        | (go_simp; go_at_call 31; (with_reducible refine (layer_any HFd PL3.out.box PL3.out.sL hml HV).mono ?_); rintro e w5 ⟨rfl, hb5⟩; have hO5 := Lib.hid (hOd.out.callB hb5); have HF5 := HFd.below hb5; clear hb5; obtain ⟨z0, z1, z2, z3⟩ := hfc.out w5 HF5)
        | (go_simp; go_at_call 30; (with_reducible refine (chance_any hM HF5 HP3.out PL3.out hk3.out hjT hj hL hT HTK hnu hul hoku hu hr).mono ?_); rintro e w6 ⟨rfl, hb6⟩; have hO6 := Lib.hid (hO5.out.callB hb6); have HF6 := HF5.below hb6; clear hb6; obtain ⟨v0, v1, v2, v3⟩ := hfc.out w6 HF6)
        | fail)
      all_goals
        go_wp2
        go_roundw
        case rel => exact ⟨k + 1, a9, c9, xs ++ [(S, T)], by omega, by go_num, by simp, hnx, Lib.hid ⟨HF9.out.1, HF9.out.2⟩⟩
        case measure => (simp [intOf] <;> omega)
    · obtain rfl : n = k := by omega
      have ex : l.take n = l := by rw [← hn.out, List.take_length]
      rw [ex] at hxs
      go_wp2
      go_ret2
      obtain ⟨φ', hle, hi, hsl, _⟩ := hS.out.own.release hS.out.inv
      exact ⟨ao, co, φ', by rw [hR.out, hxs.out]; rfl, hI1.out.call hi, by rw [hR.out, hxs.out]; exact hsl⟩
end Go.Proofs.YtnlhalnjbkpdnaaGreatDoor
