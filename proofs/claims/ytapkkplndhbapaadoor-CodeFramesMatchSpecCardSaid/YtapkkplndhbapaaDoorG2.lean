/- The walks of the reference's Above, meeting and Meeting. Conditions: none beyond what the claim form gives. -/
import Derived.Test.YtapkkplndhbapaaDoorG1
import Derived.OwnWalk
namespace Go.Proofs.YtapkkplndhbapaaDoor
open Go.RowKit
set_option linter.unusedVariables false
theorem upX_at (l : List Nod) : ∀ (m : Nat) (a : Int), itC l m a = 0 → ∀ i, i ≤ m → (upA l m a ++ [0]).getD i 0 = itC l i a
  | 0, a, h, i, hi => by
    obtain rfl : i = 0 := by omega
    exact h.symm
  | m + 1, a, h, 0, _ => by rw [upA]; rfl
  | m + 1, a, h, i + 1, hi => by
    rw [upA, itC_succ, List.cons_append, List.getD_cons_succ]
    exact upX_at l m (parC l a) (by rw [← itC_succ]; exact h) i (by omega)
theorem lvA_itC {l : List Nod} {n : Nat} : ∀ {i m : Nat} {a : Int}, lvA l n a = some m → i ≤ m → lvA l n (itC l i a) = some (m - i)
  | 0, m, a, h, _ => by simpa [itC] using h
  | i + 1, m, a, h, hi => by
    obtain ⟨j, rfl⟩ : ∃ j, m = j + 1 := ⟨m - 1, by omega⟩
    rw [itC_succ, lvA_itC (lvA_step h).2 (by omega)]
    congr 1
    omega
section
variable {l : List Nod} {n : Nat}
/-- A code and those above it, and 0: each at its level. -/
theorem up0_at (h : TrOk l n) {a : Int} (ha : (ix l a).isSome = true) {i : Nat} (hi : i < (upL l a ++ [0]).length) : lvl l ((upL l a ++ [0]).getD i 0) + i = lvl l a := by
  obtain ⟨⟨m, hm, _⟩, _⟩ := code_lv h ha
  obtain ⟨e1, e2⟩ := upL_eq h.len hm
  rw [e1, List.length_append, upA_length] at hi
  have hi : i ≤ m := by simp at hi; omega
  rw [e1, upX_at l m a (it_zero hm) i hi, e2]
  have := lvA_itC hm hi
  rw [lvl_of (by rw [h.len]; exact this)]
  omega
theorem up0_len (h : TrOk l n) {a : Int} (ha : (ix l a).isSome = true) : (upL l a ++ [0]).length = lvl l a + 1 ∧ lvl l a ≤ 8 := by
  obtain ⟨⟨m, hm, h8⟩, _⟩ := code_lv h ha
  obtain ⟨e1, e2⟩ := upL_eq h.len hm
  exact ⟨by rw [e1, List.length_append, upA_length, e2]; rfl, by omega⟩
/-- Where the first that is met stands, in both. -/
theorem meet_dist (h : TrOk l n) {a b : Int} (ha : (ix l a).isSome = true) (hb : (ix l b).isSome = true) {k : Nat} (hk : k < (upL l a ++ [0]).length) (hz : ∀ i, i < k → (upL l a ++ [0]).getD i 0 ∉ upL l b ++ [0]) (hp : (upL l a ++ [0]).getD k 0 ∈ upL l b ++ [0]) :
    meetOf l a b = (upL l a ++ [0]).getD k 0 ∧ distOf l a b = k + idI (upL l b ++ [0]) ((upL l a ++ [0]).getD k 0) ∧ idI (upL l b ++ [0]) ((upL l a ++ [0]).getD k 0) ≤ 9 ∧ 0 ≤ idI (upL l b ++ [0]) ((upL l a ++ [0]).getD k 0) := by
  have hiff : ∀ x : Int, x ∈ upL l b ++ [0] ↔ (x = 0 ∨ x ∈ upL l b) := fun x => by rw [List.mem_append, List.mem_singleton, or_comm]
  have hm := meet_at (l := l) (a := a) (b := b) rfl rfl hk (fun i hi q => hz i hi ((hiff _).2 q)) ((hiff _).1 hp)
  have h1 := up0_at h ha hk
  obtain ⟨j, hj, e⟩ := List.getElem_of_mem hp
  have hlt : (upL l b ++ [0]).idxOf ((upL l a ++ [0]).getD k 0) < (upL l b ++ [0]).length := List.idxOf_lt_length_of_mem hp
  have h2 := up0_at h hb hlt
  have e2 : (upL l b ++ [0]).getD ((upL l b ++ [0]).idxOf ((upL l a ++ [0]).getD k 0)) 0 = (upL l a ++ [0]).getD k 0 := by
    rw [getD_elem0 _ _ _ hlt]; exact List.getElem_idxOf hlt
  rw [e2] at h2
  have h3 := up0_len h hb
  have hid : idI (upL l b ++ [0]) ((upL l a ++ [0]).getD k 0) = ((upL l b ++ [0]).idxOf ((upL l a ++ [0]).getD k 0) : Int) := by unfold idI; rw [if_pos hp]
  rw [hid, hm]
  refine ⟨rfl, ?_, by omega, by omega⟩
  unfold distOf
  rw [hm]
  omega
end
set_option maxHeartbeats 1000000 in
theorem RAbove_any {w : World} {a : Option Addr} {c n : Nat} {l : List Nod} {φ : Phi} (hφ : Fz φ w) (s : SlV φ a c l) (hn : Hid (l.length = n)) (hm : n ≤ 9223372036854775807) (x : Int) :
    Calls Tryd.prog 11 #[.slice a n c, .int .i64 x] w (SlPost (abovF l x) φ w) := by
  go_enter Tryd.func11, Tryd.ntmps11
  go_wp2_with fail
  obtain ⟨φ1, hle, hi1, sx⟩ := SlV.lit (α := Int) hφ 3 (xs := [x]) (arr := #[.int .i64 x]) (RepL.single rfl) (by simp [maxLen])
  refine (known_any hi1.fz (s.mono hle) hn hm sx (Lib.hid rfl) (by simp)).mono ?_
  rintro e w1 ⟨rfl, hb⟩
  have HB := Lib.hid (hi1.bel.trans (hb.mono hi1.bel.size))
  obtain ⟨q, hq⟩ : ∃ q, Hid (codedF l [x] = q) := ⟨_, Lib.hid rfl⟩
  rw [hq.out]
  clear hb hi1 sx hle
  by_cases h0 : q = 0
  case neg =>
    have hg : ((q : Int) != 0) = true := by simp [h0]
    have H0 := Lib.hid h0
    clear h0
    go_wp2
    go_ret2
    exact ⟨none, 0, φ, by rw [abovF, hq.out, if_pos H0.out]; rfl, (Inv.start hφ).callB HB.out, by rw [abovF, hq.out, if_pos H0.out]; exact SlV.empty _⟩
  subst h0
  have e : Hid (abovF l x = ((upL l x).tail, 0)) := Lib.hid (by rw [abovF, hq.out, if_neg (by simp)])
  obtain ⟨ht0, hx0⟩ := codedF_one hq.out
  have HT : Hid (TrOk l n) := Lib.hid (by have := treeF_zero ht0; rwa [hn.out] at this)
  have hab := Lib.hid (abv_tr HT.out hx0).1
  have HI := Lib.hid ((Inv.start hφ).callB HB.out)
  have HX := Lib.hid hx0
  clear ht0 hx0
  go_wp2_with fail
  refine (above_any HI.out.fz s (Lib.hid HT.out.toPar) x HX.out).mono ?_
  rintro e2 w2 ⟨au, cu, φ2, rfl, hi2, su⟩
  rw [hab.out] at su ⊢
  dsimp only at su ⊢
  have HI2 := Lib.hid (HI.out.call hi2)
  have SU := Lib.hid su
  clear hi2 su
  go_wp2
  go_ret2
  exact ⟨au, cu, φ2, by rw [e.out]; dsimp only; rw [List.length_tail]; rfl, HI2.out, by rw [e.out]; exact SU.out⟩
set_option maxRecDepth 100000 in
set_option maxHeartbeats 1000000 in
theorem Rmeeting_any {w : World} {a : Option Addr} {c n : Nat} {l : List Nod} {φ : Phi} (hφ : Fz φ w) (s : SlV φ a c l) (hok : Hid (TrOk l n)) (x y : Int) (hx : Hid ((ix l x).isSome = true)) (hy : Hid ((ix l y).isSome = true)) :
    Calls Tryd.prog 35 #[.slice a n c, .int .i64 x, .int .i64 y] w fun e w' => e = .returned (.tuple #[.int .i64 (meetOf l x y), .int .i64 (distOf l x y)]) ∧ Below w.heap.size w w' := by
  obtain ⟨U, hU⟩ : ∃ U, Hid (upL l x = U) := ⟨_, Lib.hid rfl⟩
  obtain ⟨V, hV⟩ : ∃ V, Hid (upL l y = V) := ⟨_, Lib.hid rfl⟩
  have hlU := up0_len hok.out hx.out
  have hlV := up0_len hok.out hy.out
  have hmd := Lib.hid (fun k hk hz hp => meet_dist hok.out hx.out hy.out (k := k) hk hz hp)
  rw [hU.out] at hlU hmd
  rw [hV.out] at hlV hmd
  simp only [List.length_append, List.length_singleton] at hlU hlV
  have hU9 : U.length ≤ 8 := by omega
  have hV9 : V.length ≤ 8 := by omega
  clear hlU hlV
  go_enter Tryd.func35, Tryd.ntmps35
  go_wp2_with fail
  refine (lineage_own hφ s hok x hx.out).mono ?_
  rw [hU.out]
  rintro e w1 ⟨a1, c1, φ1, rfl, hi1, ho1⟩
  have hXl : (U ++ [(0 : Int)]).length = U.length + 1 := by simp
  have hYl : (V ++ [(0 : Int)]).length = V.length + 1 := by simp
  have HXl := Lib.hid hXl
  have HYl := Lib.hid hYl
  have HLIN : Hid (∀ W ψ, φ.le ψ → Fz ψ W → Calls Tryd.prog 33 #[.slice a n c, .int .i64 y] W (OwnPost W ψ 3 V)) := Lib.hid (fun W ψ hl hf => by
    have := lineage_own hf (s.mono hl) hok y hy.out
    rwa [hV.out] at this)
  clear hXl hYl
  go_wp2_with (first
    | (go_at_call 33; refine (HLIN.out _ _ LE2.out I3.out.fz).mono ?_; rintro e w4 ⟨a4, c4, φ4, rfl, hi4, ho4⟩; have S4 := Lib.hid (S3.out.mono hi4.le); have I4 := Lib.hid (I3.out.call hi4))
    | (at_builtin; (refine wpList_app1F (α := Int) rfl _ _ 27 rfl slI hi4 a4 c4 _ ho4 _ _ (0 : Int) rfl rfl 1 rfl (by omega) ?_; intro a5 c5 w5 hi5 ho5 hg5 hf5; obtain ⟨φ5, l5, hi6, s6, _⟩ := ho5.release hi5; have S6 := Lib.hid s6; have I6 := Lib.hid hi6; have L5 := Lib.hid l5; clear hg5 hf5 ho5 hi5 l5 hi6 s6))
    | (at_builtin; (refine wpList_app1F (α := Int) rfl _ _ 27 rfl slI hi1 a1 c1 _ ho1 _ _ (0 : Int) rfl rfl 1 rfl (by omega) ?_; intro a2 c2 w2 hi2 ho2 hg2 hf2; obtain ⟨φ2, l2, hi3, s3, _⟩ := ho2.release hi2; have S3 := Lib.hid s3; have I3 := Lib.hid hi3; have LE2 := Lib.hid hi3.le; clear hg2 hf2 ho2 hi2 l2 hi3 s3 hi1 ho1)))
  have SX := Lib.hid (S4.out.mono L5.out)
  have hF := Lib.hid I6.out.fz
  have HB := Lib.hid (I3.out.bel.trans (I6.out.bel.mono I3.out.size))
  clear S4 I4 I6 L5 hi4 ho4 S3 I3 LE2 HLIN
  go_loopw [25] (fun i wr => ∃ k : Nat, k ≤ U.length + 1 ∧ i = .int .i64 k ∧ Hid (∀ i, i < k → (U ++ [(0 : Int)]).getD i 0 ∉ V ++ [(0 : Int)]) ∧ wr = w5) (fun i _ => U.length + 1 - (intOf i).toNat)
  case atStart => exact ⟨0, Nat.zero_le _, rfl, Lib.hid (fun i hi => by omega), rfl⟩
  case round =>
    obtain ⟨k, hk, rfl, hz, rfl⟩ := hrel
    rename World => w5
    by_cases hlt : k < U.length + 1
    · obtain ⟨b, off, rfl, f⟩ := SX.out.intsD HXl hlt
      obtain ⟨hbl, d1⟩ := f k hlt w5 hF.out
      have hfound := Lib.hid (hmd.out k (by rw [HXl.out]; exact hlt) hz.out)
      have hid : Hid (idI (V ++ [(0 : Int)]) ((U ++ [(0 : Int)]).getD k 0) = -1 ∨ (U ++ [(0 : Int)]).getD k 0 ∈ V ++ [(0 : Int)]) := Lib.hid (by
        by_cases h : (U ++ [(0 : Int)]).getD k 0 ∈ V ++ [(0 : Int)]
        · exact .inr h
        · exact .inl (by unfold idI; rw [if_neg h]))
      clear f
      obtain ⟨z, hzz⟩ : ∃ z, Hid ((U ++ [(0 : Int)]).getD k 0 = z) := ⟨_, Lib.hid rfl⟩
      have hnext : Hid (z ∉ V ++ [(0 : Int)] → ∀ i, i < k + 1 → (U ++ [(0 : Int)]).getD i 0 ∉ V ++ [(0 : Int)]) := Lib.hid (fun h i hi => by
        by_cases e : i = k
        · subst e; rw [hzz.out]; exact h
        · exact hz.out i (by omega))
      rw [hzz.out] at d1 hfound hid
      obtain ⟨q, hq⟩ : ∃ q, Hid (idI (V ++ [(0 : Int)]) z = q) := ⟨_, Lib.hid rfl⟩
      rw [hq.out] at hfound hid
      by_cases hin : z ∈ V ++ [(0 : Int)]
      · obtain ⟨e1, e2, e3, e4⟩ := hfound.out hin
        have E1 := Lib.hid (And.intro e1 e2)
        clear e1 e2 hin
        go_wp2_with (go_at_call 48; refine (Index_ex _ _ _ _ z _ _ hF.out S6.out HYl (by omega) hq.out).mono ?_; rintro e w' ⟨rfl, rfl⟩)
        go_ret2
        exact ⟨by rw [E1.out.1, E1.out.2]; rfl, HB.out⟩
      · have hqm : q = -1 := hid.out.resolve_right hin
        subst hqm
        have HN := Lib.hid hin
        clear hin
        go_wp2_with (go_at_call 48; refine (Index_ex _ _ _ _ z _ _ hF.out S6.out HYl (by omega) hq.out).mono ?_; rintro e w' ⟨rfl, rfl⟩)
        go_roundw
        case rel => exact ⟨k + 1, by omega, by go_num, Lib.hid (hnext.out HN.out), trivial⟩
        case measure => (simp [intOf] <;> omega)
    · exfalso
      exact hz.out U.length (by omega) (by simp)
theorem codedF_pair {l : List Nod} {x y : Int} (h : codedF l [x, y] = 0) : treeF l = 0 ∧ (ix l x).isSome = true ∧ (ix l y).isSome = true := by
  unfold codedF at h
  split at h
  · next h1 => exact absurd h h1
  · next h1 =>
    refine ⟨by simpa using h1, ?_⟩
    have h0 := scan_all _ h 0 (by simp)
    have h1 := scan_all _ h 1 (by simp)
    unfold miss5 at h0 h1
    constructor
    · cases hh : (ix l ([x, y].getD 0 0)).isSome
      · rw [hh] at h0; cases h0
      · exact hh
    · cases hh : (ix l ([x, y].getD 1 0)).isSome
      · rw [hh] at h1; cases h1
      · exact hh
set_option maxHeartbeats 1000000 in
theorem RMeeting_any {w : World} {a : Option Addr} {c n : Nat} {l : List Nod} {φ : Phi} (hφ : Fz φ w) (s : SlV φ a c l) (hn : Hid (l.length = n)) (hm : n ≤ 9223372036854775807) (x y : Int) :
    Calls Tryd.prog 16 #[.slice a n c, .int .i64 x, .int .i64 y] w (fun e w' => e = .returned (tup3 (meetF l x y)) ∧ Below w.heap.size w w') := by
  go_enter Tryd.func16, Tryd.ntmps16
  go_wp2_with fail
  obtain ⟨φ1, hle, hf1, sx⟩ := pair_row hφ x y 3
  have hb0 := (Below.refl w.heap.size w).alloc (Nat.le_refl _) (.cells #[.int .i64 x, .int .i64 y] 3)
  refine (known_any hf1 (s.mono hle) hn hm sx (Lib.hid rfl) (by simp)).mono ?_
  rintro e w1 ⟨rfl, hb⟩
  have HB := Lib.hid (hb0.trans (hb.mono hb0.size))
  obtain ⟨q, hq⟩ : ∃ q, Hid (codedF l [x, y] = q) := ⟨_, Lib.hid rfl⟩
  rw [hq.out]
  clear hb hb0 hf1 sx hle
  by_cases h0 : q = 0
  case neg =>
    have hg : ((q : Int) != 0) = true := by simp [h0]
    have H0 := Lib.hid h0
    clear h0
    go_wp2
    go_ret3
    exact ⟨by rw [meetF, hq.out, if_pos H0.out]; rfl, HB.out⟩
  subst h0
  obtain ⟨ht0, hx0, hy0⟩ := codedF_pair hq.out
  have HT : Hid (TrOk l n) := Lib.hid (by have := treeF_zero ht0; rwa [hn.out] at this)
  have e : Hid (meetF l x y = (meetOf l x y, distOf l x y, 0)) := Lib.hid (by rw [meetF, hq.out, if_neg (by simp)])
  have HX := Lib.hid hx0
  have HY := Lib.hid hy0
  clear ht0 hx0 hy0
  go_wp2_with (go_at_call 35; refine (Rmeeting_any (hφ.below HB.out) s HT x y HX HY).mono ?_; rintro e2 w2 ⟨rfl, hb2⟩; have HB2 := Lib.hid (HB.out.trans (hb2.mono HB.out.size)); clear hb2)
  go_ret3
  exact ⟨by rw [e.out]; rfl, HB2.out⟩
end Go.Proofs.YtapkkplndhbapaaDoor
