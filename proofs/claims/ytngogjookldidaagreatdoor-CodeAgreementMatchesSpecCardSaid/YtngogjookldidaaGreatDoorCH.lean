/- How far two codes are, the reference's side: the walks of meeting and far. Alpha, the reference's side: the plain law (what is seen, what is expected, bounds). Conditions: none beyond what the claim form gives. -/
import Derived.Test.YtngogjookldidaaGreatDoorCE
import Derived.Test.YtngogjookldidaaGreatDoorKB
import Derived.OwnWalk
import Derived.Test.YtngogjookldidaaGreatDoorCF
import Derived.Test.YtngogjookldidaaGreatDoorCD
namespace Go.Proofs.YtngogjookldidaaGreatDoor
open Go.RowKit
set_option linter.unusedVariables false
set_option linter.unusedSimpArgs false
theorem upX_at (l : List Nod) : ∀ (m : Nat) (a : Int), itC l m a = 0 → ∀ i, i ≤ m → (upA l m a ++ [0]).getD i 0 = itC l i a
  | 0, a, h, i, hi => by
    obtain rfl : i = 0 := by omega
    exact h.symm
  | m + 1, a, h, 0, _ => by rw [upA]; rfl
  | m + 1, a, h, i + 1, hi => by
    rw [upA, itC_succ, List.cons_append, List.getD_cons_succ]
    exact upX_at l m (parC l a) (by rw [← itC_succ]; exact h) i (by omega)
theorem lvA_itC {l : List Nod} {n : Nat} : ∀ {i m : Nat} {a : Int}, lvA l n a = some m → i ≤ m → lvA l n (itC l i a) = some (m - i)
  | 0, m, a, h, _ => by simpa [itC] using h
  | i + 1, m, a, h, hi => by
    obtain ⟨j, rfl⟩ : ∃ j, m = j + 1 := ⟨m - 1, by omega⟩
    rw [itC_succ, lvA_itC (lvA_step h).2 (by omega)]
    congr 1
    omega
section
variable {l : List Nod} {n : Nat}
/-- A code and those above it, and 0: each at its level. -/
theorem up0_at (h : TrOk l n) {a : Int} (ha : (ix l a).isSome = true) {i : Nat} (hi : i < (upL l a ++ [0]).length) : lvl l ((upL l a ++ [0]).getD i 0) + i = lvl l a := by
  obtain ⟨⟨m, hm, _⟩, _⟩ := code_lv h ha
  obtain ⟨e1, e2⟩ := upL_eq h.len hm
  rw [e1, List.length_append, upA_length] at hi
  have hi : i ≤ m := by simp at hi; omega
  rw [e1, upX_at l m a (it_zero hm) i hi, e2]
  have := lvA_itC hm hi
  rw [lvl_of (by rw [h.len]; exact this)]
  omega
theorem up0_len (h : TrOk l n) {a : Int} (ha : (ix l a).isSome = true) : (upL l a ++ [0]).length = lvl l a + 1 ∧ lvl l a ≤ 8 := by
  obtain ⟨⟨m, hm, h8⟩, _⟩ := code_lv h ha
  obtain ⟨e1, e2⟩ := upL_eq h.len hm
  exact ⟨by rw [e1, List.length_append, upA_length, e2]; rfl, by omega⟩
/-- Where the first that is met stands, in both. -/
theorem meet_dist (h : TrOk l n) {a b : Int} (ha : (ix l a).isSome = true) (hb : (ix l b).isSome = true) {k : Nat} (hk : k < (upL l a ++ [0]).length) (hz : ∀ i, i < k → (upL l a ++ [0]).getD i 0 ∉ upL l b ++ [0]) (hp : (upL l a ++ [0]).getD k 0 ∈ upL l b ++ [0]) :
    meetOf l a b = (upL l a ++ [0]).getD k 0 ∧ distOf l a b = k + idI (upL l b ++ [0]) ((upL l a ++ [0]).getD k 0) ∧ idI (upL l b ++ [0]) ((upL l a ++ [0]).getD k 0) ≤ 9 ∧ 0 ≤ idI (upL l b ++ [0]) ((upL l a ++ [0]).getD k 0) := by
  have hiff : ∀ x : Int, x ∈ upL l b ++ [0] ↔ (x = 0 ∨ x ∈ upL l b) := fun x => by rw [List.mem_append, List.mem_singleton, or_comm]
  have hm := meet_at (l := l) (a := a) (b := b) rfl rfl hk (fun i hi q => hz i hi ((hiff _).2 q)) ((hiff _).1 hp)
  have h1 := up0_at h ha hk
  obtain ⟨j, hj, e⟩ := List.getElem_of_mem hp
  have hlt : (upL l b ++ [0]).idxOf ((upL l a ++ [0]).getD k 0) < (upL l b ++ [0]).length := List.idxOf_lt_length_of_mem hp
  have h2 := up0_at h hb hlt
  have e2 : (upL l b ++ [0]).getD ((upL l b ++ [0]).idxOf ((upL l a ++ [0]).getD k 0)) 0 = (upL l a ++ [0]).getD k 0 := by
    rw [getD_elem0 _ _ _ hlt]; exact List.getElem_idxOf hlt
  rw [e2] at h2
  have h3 := up0_len h hb
  have hid : idI (upL l b ++ [0]) ((upL l a ++ [0]).getD k 0) = ((upL l b ++ [0]).idxOf ((upL l a ++ [0]).getD k 0) : Int) := by unfold idI; rw [if_pos hp]
  rw [hid, hm]
  refine ⟨rfl, ?_, by omega, by omega⟩
  unfold distOf
  rw [hm]
  omega
end
set_option maxRecDepth 100000 in
set_option maxHeartbeats 1000000 in
theorem Rmeeting_any {w : World} {a : Option Addr} {c n : Nat} {l : List Nod} {φ : Phi} (hφ : Fz φ w) (s : SlV φ a c l) (hok : Hid (TrOk l n)) (x y : Int) (hx : Hid ((ix l x).isSome = true)) (hy : Hid ((ix l y).isSome = true)) :
    Calls Tryz.prog 57 #[.slice a n c, .int .i64 x, .int .i64 y] w fun e w' => e = .returned (.tuple #[.int .i64 (meetOf l x y), .int .i64 (distOf l x y)]) ∧ Below w.heap.size w w' := by
  obtain ⟨U, hU⟩ : ∃ U, Hid (upL l x = U) := ⟨_, Lib.hid rfl⟩
  obtain ⟨V, hV⟩ : ∃ V, Hid (upL l y = V) := ⟨_, Lib.hid rfl⟩
  have hlU := up0_len hok.out hx.out
  have hlV := up0_len hok.out hy.out
  have hmd := Lib.hid (fun k hk hz hp => meet_dist hok.out hx.out hy.out (k := k) hk hz hp)
  rw [hU.out] at hlU hmd
  rw [hV.out] at hlV hmd
  simp only [List.length_append, List.length_singleton] at hlU hlV
  have hU9 : U.length ≤ 8 := by omega
  have hV9 : V.length ≤ 8 := by omega
  clear hlU hlV
  go_enter Tryz.func57, Tryz.ntmps57
  go_wp2_with fail
  refine (lineage_own hφ s hok x hx.out).mono ?_
  rw [hU.out]
  rintro e w1 ⟨a1, c1, φ1, rfl, hi1, ho1⟩
  have hXl : (U ++ [(0 : Int)]).length = U.length + 1 := by simp
  have hYl : (V ++ [(0 : Int)]).length = V.length + 1 := by simp
  have HXl := Lib.hid hXl
  have HYl := Lib.hid hYl
  have HLIN : Hid (∀ W ψ, φ.le ψ → Fz ψ W → Calls Tryz.prog 85 #[.slice a n c, .int .i64 y] W (OwnPost W ψ 3 V)) := Lib.hid (fun W ψ hl hf => by
    have := lineage_own hf (s.mono hl) hok y hy.out
    rwa [hV.out] at this)
  clear hXl hYl
  go_wp2_with (first
    | (go_at_call 85; refine (HLIN.out _ _ LE2.out I3.out.fz).mono ?_; rintro e w4 ⟨a4, c4, φ4, rfl, hi4, ho4⟩; have S4 := Lib.hid (S3.out.mono hi4.le); have I4 := Lib.hid (I3.out.call hi4))
    | (at_builtin; (refine wpList_app1F (α := Int) rfl _ _ 56 rfl slI hi4 a4 c4 _ ho4 _ _ (0 : Int) rfl rfl 1 rfl (by omega) ?_; intro a5 c5 w5 hi5 ho5 hg5 hf5; obtain ⟨φ5, l5, hi6, s6, _⟩ := ho5.release hi5; have S6 := Lib.hid s6; have I6 := Lib.hid hi6; have L5 := Lib.hid l5; clear hg5 hf5 ho5 hi5 l5 hi6 s6))
    | (at_builtin; (refine wpList_app1F (α := Int) rfl _ _ 56 rfl slI hi1 a1 c1 _ ho1 _ _ (0 : Int) rfl rfl 1 rfl (by omega) ?_; intro a2 c2 w2 hi2 ho2 hg2 hf2; obtain ⟨φ2, l2, hi3, s3, _⟩ := ho2.release hi2; have S3 := Lib.hid s3; have I3 := Lib.hid hi3; have LE2 := Lib.hid hi3.le; clear hg2 hf2 ho2 hi2 l2 hi3 s3 hi1 ho1)))
  have SX := Lib.hid (S4.out.mono L5.out)
  have hF := Lib.hid I6.out.fz
  have HB := Lib.hid (I3.out.bel.trans (I6.out.bel.mono I3.out.size))
  clear S4 I4 I6 L5 hi4 ho4 S3 I3 LE2 HLIN
  go_loopw [25] (fun i wr => ∃ k : Nat, k ≤ U.length + 1 ∧ i = .int .i64 k ∧ Hid (∀ i, i < k → (U ++ [(0 : Int)]).getD i 0 ∉ V ++ [(0 : Int)]) ∧ wr = w5) (fun i _ => U.length + 1 - (intOf i).toNat)
  case atStart => exact ⟨0, Nat.zero_le _, rfl, Lib.hid (fun i hi => by omega), rfl⟩
  case round =>
    obtain ⟨k, hk, rfl, hz, rfl⟩ := hrel
    rename World => w5
    by_cases hlt : k < U.length + 1
    · obtain ⟨b, off, rfl, f⟩ := SX.out.intsD HXl hlt
      obtain ⟨hbl, d1⟩ := f k hlt w5 hF.out
      have hfound := Lib.hid (hmd.out k (by rw [HXl.out]; exact hlt) hz.out)
      have hid : Hid (idI (V ++ [(0 : Int)]) ((U ++ [(0 : Int)]).getD k 0) = -1 ∨ (U ++ [(0 : Int)]).getD k 0 ∈ V ++ [(0 : Int)]) := Lib.hid (by
        by_cases h : (U ++ [(0 : Int)]).getD k 0 ∈ V ++ [(0 : Int)]
        · exact .inr h
        · exact .inl (by unfold idI; rw [if_neg h]))
      clear f
      obtain ⟨z, hzz⟩ : ∃ z, Hid ((U ++ [(0 : Int)]).getD k 0 = z) := ⟨_, Lib.hid rfl⟩
      have hnext : Hid (z ∉ V ++ [(0 : Int)] → ∀ i, i < k + 1 → (U ++ [(0 : Int)]).getD i 0 ∉ V ++ [(0 : Int)]) := Lib.hid (fun h i hi => by
        by_cases e : i = k
        · subst e; rw [hzz.out]; exact h
        · exact hz.out i (by omega))
      rw [hzz.out] at d1 hfound hid
      obtain ⟨q, hq⟩ : ∃ q, Hid (idI (V ++ [(0 : Int)]) z = q) := ⟨_, Lib.hid rfl⟩
      rw [hq.out] at hfound hid
      by_cases hin : z ∈ V ++ [(0 : Int)]
      · obtain ⟨e1, e2, e3, e4⟩ := hfound.out hin
        have E1 := Lib.hid (And.intro e1 e2)
        clear e1 e2 hin
        go_wp2_with (go_at_call 86; refine (Index_ex _ _ _ _ z _ _ hF.out S6.out HYl (by omega) hq.out).mono ?_; rintro e w' ⟨rfl, rfl⟩)
        go_ret2
        exact ⟨by rw [E1.out.1, E1.out.2]; rfl, HB.out⟩
      · have hqm : q = -1 := hid.out.resolve_right hin
        subst hqm
        have HN := Lib.hid hin
        clear hin
        go_wp2_with (go_at_call 86; refine (Index_ex _ _ _ _ z _ _ hF.out S6.out HYl (by omega) hq.out).mono ?_; rintro e w' ⟨rfl, rfl⟩)
        go_roundw
        case rel => exact ⟨k + 1, by omega, by go_num, Lib.hid (hnext.out HN.out), trivial⟩
        case measure => (simp [intOf] <;> omega)
    · exfalso
      exact hz.out U.length (by omega) (by simp)
theorem Rfar_any {w : World} {a : Option Addr} {c n : Nat} {l : List Nod} {φ : Phi} (hφ : Fz φ w) (s : SlV φ a c l) (hok : Hid (TrOk l n)) (x y : Int) (hx : Hid ((ix l x).isSome = true)) (hy : Hid ((ix l y).isSome = true)) (tr : Bool) :
    Calls Tryz.prog 32 #[.slice a n c, .bool tr, .int .i64 x, .int .i64 y] w (IntB (farN l tr x y : Nat) w) := by
  by_cases hxy : x = y
  · have hg : ((x : Int) == y) = true := by simp [hxy]
    have e : Hid (farN l tr x y = 0) := Lib.hid (by rw [farN, if_pos hxy])
    clear hxy
    go_enter Tryz.func32, Tryz.ntmps32
    go_wp2
    go_ret
    exact ⟨ret_int (by rw [e.out]; rfl), Below.refl _ _⟩
  have hg : ((x : Int) == y) = false := by simp [hxy]
  cases tr with
  | false =>
    have e : Hid (farN l false x y = 1) := Lib.hid (by rw [farN, if_neg hxy, if_pos rfl])
    clear hxy
    go_enter Tryz.func32, Tryz.ntmps32
    go_wp2
    go_ret
    exact ⟨ret_int (by rw [e.out]; rfl), Below.refl _ _⟩
  | true =>
    have e : Hid ((farN l true x y : Int) = distOf l x y * distOf l x y) := Lib.hid (by rw [farN, if_neg hxy, if_neg (by simp), farN_sq hok.out hx.out hy.out])
    obtain ⟨d1, d2⟩ := dist_bound hok.out hx.out hy.out
    have hw : IntKind.i64.wrap (distOf l x y * distOf l x y) = distOf l x y * distOf l x y := IntWalk.i64_in _ (by
      have h3 : distOf l x y * distOf l x y ≤ 16 * 16 := Int.mul_le_mul d2 d2 d1 (by omega)
      have := Int.mul_nonneg d1 d1
      omega)
    rw [e.out]
    clear hxy e d1 d2
    go_enter Tryz.func32, Tryz.ntmps32
    go_wp2_with fail
    refine (Rmeeting_any hφ s hok x y hx hy).mono ?_
    rintro e w1 ⟨rfl, hb⟩
    generalize distOf l x y = d at *
    go_wp2
    go_ret
    exact ⟨rfl, hb⟩
end Go.Proofs.YtngogjookldidaaGreatDoor

namespace Go.Proofs.YtngogjookldidaaGreatDoor
set_option linter.unusedVariables false
set_option linter.unusedSimpArgs false
/-- What is seen, as a number. -/
noncomputable def seenR (l : List Nod) (tr : Bool) (B : List (List Cdg)) : Rat := (seenN l tr B : Rat) / (e49 : Rat)
theorem seenR_nil (l : List Nod) (tr : Bool) : ((0 : Int) : Rat) = seenR l tr [] := by
  unfold seenR seenN
  rw [sumN_nil]
  have h : ((0 : Nat) : Rat) = 0 := rfl
  rw [h, Rat.div_def, Rat.zero_mul]
  rfl
theorem seenR_step (l : List Nod) (tr : Bool) (B : List (List Cdg)) {g : List Cdg} (h2 : 2 ≤ g.length) (h50 : g.length ≤ 50) : seenR l tr B + mkRat (scatN l tr (codesG g)) (g.length - 1) = seenR l tr (B ++ [g]) := by
  have h1 := part_49 (m := (g.length : Int)) (by omega) (by omega) (scatN l tr (codesG g))
  have e : mkRat (scatN l tr (codesG g)) (g.length - 1) = (scatN l tr (codesG g) : Rat) / (((g.length : Int) - 1 : Int) : Rat) := by
    rw [Rat.mkRat_eq_div, nat_int]
    congr 1
    have : ((g.length : Int) - 1 : Int) = (((g.length - 1 : Nat)) : Int) := by omega
    rw [this, nat_int]
  rw [e, h1]
  unfold seenR
  rw [sum_49]
  congr 2
  unfold seenN
  rw [sumN_snoc]
theorem seen_le {l : List Nod} {tr : Bool} {B : List (List Cdg)} : seenN l tr B ≤ totN l tr B * e49 := by
  unfold seenN totN
  rw [← sumN_mul]
  exact sumN_le (fun g _ => Nat.mul_le_mul_left _ (c49_le _))
theorem seen_cap {l : List Nod} {tr : Bool} {B : List (List Cdg)} (h : totN l tr B ≤ 256000000) {Z n0 d0 : Nat} (hZ : lb ^ 11 ≤ Z) : CapOk (seenR l tr B) n0 d0 Z Z := by
  have h1 : seenN l tr B ≤ 256000000 * e49 := Nat.le_trans seen_le (Nat.mul_le_mul_right _ h)
  have he : ((e49 : Nat) : Int) ≠ 0 := by decide
  have hx : seenR l tr B = rat (!(decide (((seenN l tr B : Nat) : Int) < 0) == decide (((e49 : Nat) : Int) < 0))) ((seenN l tr B : Nat) : Int).natAbs ((e49 : Nat) : Int).natAbs := by
    rw [rat_quot he, nat_int, nat_int]; rfl
  have h0 : ((e49 : Nat) : Int).natAbs ≠ 0 := by decide
  have hb : 256000000 * e49 ≤ Z := Nat.le_trans (by decide) hZ
  refine capOk_red ?_ ?_ hZ hZ
  · rw [hx, rat_numAbs h0, Int.natAbs_natCast]
    exact Nat.le_trans (Nat.div_le_self _ _) (Nat.le_trans h1 hb)
  · rw [hx, rat_den h0, Int.natAbs_natCast]
    exact Nat.le_trans (Nat.div_le_self _ _) (Nat.le_trans (Nat.le_mul_of_pos_left _ (by decide)) hb)
/-- Sums over the pairs of a case: rows and columns so far. -/
noncomputable def rowsN (l : List Nod) (tr : Bool) (A : List Int) (i : Nat) : Nat := ((A.take i).map (rowN l tr A)).sum
noncomputable def colsN (l : List Nod) (tr : Bool) (A : List Int) (x : Int) (k : Nat) : Nat := ((A.take k).map (fun y => farN l tr x y)).sum
theorem rowsN_zero (l : List Nod) (tr : Bool) (A : List Int) : rowsN l tr A 0 = 0 := rfl
theorem colsN_zero (l : List Nod) (tr : Bool) (A : List Int) (x : Int) : colsN l tr A x 0 = 0 := rfl
theorem rowsN_all (l : List Nod) (tr : Bool) {A : List Int} {n : Nat} (h : A.length = n) : rowsN l tr A n = scatN l tr A := by
  unfold rowsN scatN; rw [← h, List.take_length]
theorem colsN_all (l : List Nod) (tr : Bool) {A : List Int} {n : Nat} (h : A.length = n) (x : Int) : colsN l tr A x n = rowN l tr A x := by
  unfold colsN rowN; rw [← h, List.take_length]
theorem take_snocI (A : List Int) {n k : Nat} (h : A.length = n) (hk : k < n) : A.take (k + 1) = A.take k ++ [A.getD k 0] := take_snocD 0 A k n h hk
theorem rowsN_step (l : List Nod) (tr : Bool) {A : List Int} {n i : Nat} (h : A.length = n) (hi : i < n) : rowsN l tr A (i + 1) = rowsN l tr A i + rowN l tr A (A.getD i 0) := by
  unfold rowsN; rw [take_snocI A h hi, List.map_append, List.sum_append]; simp
theorem colsN_step (l : List Nod) (tr : Bool) {A : List Int} (x : Int) {n k : Nat} (h : A.length = n) (hk : k < n) : colsN l tr A x (k + 1) = colsN l tr A x k + farN l tr x (A.getD k 0) := by
  unfold colsN; rw [take_snocI A h hk, List.map_append, List.sum_append]; simp
theorem farN_self (l : List Nod) (tr : Bool) (x : Int) : farN l tr x x = 0 := by unfold farN; rw [if_pos rfl]
theorem colsN_le {l : List Nod} {tr : Bool} {A : List Int} {x : Int} {n k : Nat} (h : A.length = n) (hk : k < n) : colsN l tr A x k + farN l tr x (A.getD k 0) ≤ rowN l tr A x := by
  rw [← colsN_step l tr x h hk]
  unfold colsN rowN
  have e := List.take_append_drop (k + 1) A
  have e2 : (A.map (fun y => farN l tr x y)).sum = ((A.take (k + 1)).map (fun y => farN l tr x y)).sum + ((A.drop (k + 1)).map (fun y => farN l tr x y)).sum := by rw [← List.sum_append, ← List.map_append, e]
  omega
theorem rowsN_le {l : List Nod} {tr : Bool} {A : List Int} {n i : Nat} (h : A.length = n) (hi : i < n) : rowsN l tr A i + rowN l tr A (A.getD i 0) ≤ scatN l tr A := by
  rw [← rowsN_step l tr h hi]
  unfold rowsN scatN
  have e := List.take_append_drop (i + 1) A
  have e2 : (A.map (rowN l tr A)).sum = ((A.take (i + 1)).map (rowN l tr A)).sum + ((A.drop (i + 1)).map (rowN l tr A)).sum := by rw [← List.sum_append, ← List.map_append, e]
  omega
/-- Sums over the codes of a frame: bounds on the way. -/
theorem part_le2 {l : List Nod} {n : Nat} (h : TrOk l n) (tr : Bool) {A : List Int} (hv : ∀ c ∈ A, (ix l c).isSome = true) {S S2 : List Int} {c : Int} (hn : (S ++ [c]).Nodup) (hn2 : S2.Nodup) (hS : ∀ d ∈ S ++ [c], (ix l d).isSome = true) (hS2 : ∀ d ∈ S2, (ix l d).isSome = true) : outN l tr A S + inN l tr A c S2 ≤ A.length * (A.length * 256) := by
  have h1 : outN l tr A S ≤ sumN S (fun d => cnA A d * (A.length * 256)) := sumN_le (fun d hd => Nat.mul_le_mul_left _ (rowN_le h tr hv (hS d (by simp [hd]))))
  have h2 : inN l tr A c S2 ≤ cnA A c * (A.length * 256) := by
    have e1 : inN l tr A c S2 ≤ sumN S2 (fun d => cnA A d * (cnA A c * 256)) := sumN_le (fun d hd => by
      have hf := farN_le h tr (hS c (by simp)) (hS2 d hd)
      show cnA A c * cnA A d * farN l tr c d ≤ cnA A d * (cnA A c * 256)
      rw [Nat.mul_comm (cnA A c), Nat.mul_assoc]
      exact Nat.mul_le_mul_left _ (Nat.mul_le_mul_left _ hf))
    rw [sumN_mul] at e1
    have e2 : sumN S2 (fun d => cnA A d) ≤ A.length := sum_cover_le hn2 (fun q : Int => q) A
    refine Nat.le_trans e1 (Nat.le_trans (Nat.mul_le_mul_right _ e2) ?_)
    rw [Nat.mul_comm (cnA A c) 256, ← Nat.mul_assoc, Nat.mul_comm (A.length * 256)]
    exact Nat.le_refl _
  rw [sumN_mul] at h1
  have h3 : sumN (S ++ [c]) (fun d => cnA A d) ≤ A.length := sum_cover_le hn (fun q : Int => q) A
  rw [sumN_snoc] at h3
  have h4 : (sumN S (fun d => cnA A d) + cnA A c) * (A.length * 256) ≤ A.length * (A.length * 256) := Nat.mul_le_mul_right _ h3
  rw [Nat.add_mul] at h4
  exact Nat.le_trans (Nat.add_le_add h1 h2) h4
theorem outN_nil (l : List Nod) (tr : Bool) (A : List Int) : outN l tr A [] = 0 := rfl
theorem inN_nil (l : List Nod) (tr : Bool) (A : List Int) (c : Int) : inN l tr A c [] = 0 := rfl
theorem inN_step (l : List Nod) (tr : Bool) (A : List Int) (c : Int) (S : List Int) (d : Int) : inN l tr A c (S ++ [d]) = inN l tr A c S + cnA A c * cnA A d * farN l tr c d := sumN_snoc _ _ _
theorem outN_step {l : List Nod} {tr : Bool} {A : List Int} {c : Int} {S C : List Int} (hn : C.Nodup) (hc : ∀ d ∈ A, d ∈ C) : outN l tr A (S ++ [c]) = outN l tr A S + inN l tr A c C := by
  rw [inN_all hn hc]; exact sumN_snoc _ _ _
/-- The answer, as the reference works it out. -/
theorem alp_one : ratR (((1 : Int) : Rat) / ((1 : Int) : Rat)) = ratR ((1 : Int) : Rat) := by
  rw [Rat.div_def, Rat.mul_inv_cancel _ (by decide)]; rfl
theorem alp_quot {l : List Nod} {tr : Bool} {B : List (List Cdg)} {N E : Nat} (hN : N ≠ 0) : ((1 : Int) : Rat) / ((1 : Int) : Rat) + (seenN l tr B : Rat) / (e49 : Rat) * (((-((N : Int) - 1) : Int) : Rat) / ((E : Int) : Rat)) = ((1 : Int) : Rat) - seenR l tr B * mkRat ((N - 1 : Nat) : Int) E := by
  have e : mkRat ((N - 1 : Nat) : Int) E = (((N : Int) - 1 : Int) : Rat) / ((E : Int) : Rat) := by
    rw [Rat.mkRat_eq_div, nat_int E]
    congr 2
    omega
  rw [e]
  unfold seenR
  generalize (seenN l tr B : Rat) / (e49 : Rat) = x
  have e2 : ((-((N : Int) - 1) : Int) : Rat) = -(((N : Int) - 1 : Int) : Rat) := Rat.intCast_neg _
  rw [e2]
  generalize (((N : Int) - 1 : Int) : Rat) = y
  generalize ((E : Int) : Rat) = z
  have h1 : ((1 : Int) : Rat) / ((1 : Int) : Rat) = ((1 : Int) : Rat) := by rw [Rat.div_def, Rat.mul_inv_cancel _ (by decide)]; rfl
  rw [h1, Rat.div_def, Rat.div_def]
  grind
end Go.Proofs.YtngogjookldidaaGreatDoor
