/- Alpha: the plain law. Alpha: sizes of cases, bounds, what the answer is. Alpha: what is observed so far, bounds, the answer. Conditions: none beyond what the claim form gives. -/
import Derived.Test.YtngogjookldidaaGreatDoorCE
namespace Go.Proofs.YtngogjookldidaaGreatDoor
set_option linter.unusedVariables false
set_option linter.unusedSimpArgs false
theorem ratR_fine {x : Rat} (hn : x.num.natAbs < 10 ^ 200) (hd : x.den < 10 ^ 200) : ∃ S T, ratR x = (S, T, 0) ∧ S.size ≤ 201 ∧ T.size ≤ 200 := by
  have h1 : (decB x.num.natAbs).size ≤ 200 := by rw [decB_bl, bl_size]; exact dec_len 199 _ hn
  have h2 : (decB x.den).size ≤ 200 := by rw [decB_bl, bl_size]; exact dec_len 199 _ hd
  clear hn hd
  unfold ratR
  rw [if_neg (by omega)]
  refine ⟨_, _, rfl, ?_, h2⟩
  split
  · rw [ByteArray.size_append]; show 1 + _ ≤ 201; omega
  · omega
theorem ratR_fineQ {a b : Int} (hb : b ≠ 0) (ha : a.natAbs < 10 ^ 200) (hbb : b.natAbs < 10 ^ 200) : ∃ S T, ratR ((a : Rat) / (b : Rat)) = (S, T, 0) ∧ S.size ≤ 201 ∧ T.size ≤ 200 := by
  have h0 : b.natAbs ≠ 0 := by omega
  rw [← rat_quot hb]
  refine ratR_fine ?_ ?_
  · rw [rat_numAbs h0]; exact Nat.lt_of_le_of_lt (Nat.div_le_self _ _) ha
  · rw [rat_den h0]; exact Nat.lt_of_le_of_lt (Nat.div_le_self _ _) hbb
/-- The cases that more than one coder coded. -/
def codesG (g : List Cdg) : List Int := g.map (·.2.2)
def bigG (G : List (List Cdg)) : List (List Cdg) := G.filter (fun g => decide (2 ≤ g.length))
def alL (G : List (List Cdg)) : List Int := (bigG G).flatMap codesG
theorem bigG_snoc (G : List (List Cdg)) (g : List Cdg) : bigG (G ++ [g]) = if 2 ≤ g.length then bigG G ++ [g] else bigG G := by
  unfold bigG; rw [List.filter_append]; by_cases h : 2 ≤ g.length <;> simp [h]
theorem alL_snoc (G : List (List Cdg)) (g : List Cdg) (h : 2 ≤ g.length) : alL (G ++ [g]) = alL G ++ codesG g := by
  unfold alL; rw [bigG_snoc, if_pos h, List.flatMap_append]; simp
theorem alL_skip (G : List (List Cdg)) (g : List Cdg) (h : ¬ 2 ≤ g.length) : alL (G ++ [g]) = alL G := by
  unfold alL; rw [bigG_snoc, if_neg h]
/-- Sums by the size of a case. -/
noncomputable def wiN (l : List Nod) (tr : Bool) (B : List (List Cdg)) (m : Int) : Nat := sumN B (fun g => if (g.length : Int) = m then scatN l tr (codesG g) else 0)
noncomputable def wiF (l : List Nod) (tr : Bool) (B : List (List Cdg)) : Int → Option Int := fun m => if m ∈ B.map (fun g => (g.length : Int)) then some (wiN l tr B m : Int) else none
theorem wiN_snoc (l : List Nod) (tr : Bool) (B : List (List Cdg)) (g : List Cdg) (m : Int) : wiN l tr (B ++ [g]) m = wiN l tr B m + if (g.length : Int) = m then scatN l tr (codesG g) else 0 := sumN_snoc _ _ _
theorem wiF_getD (l : List Nod) (tr : Bool) (B : List (List Cdg)) (m : Int) : (wiF l tr B m).getD 0 = (wiN l tr B m : Int) := by
  unfold wiF
  split
  · rfl
  · next h =>
    unfold wiN
    rw [sumN_zero (fun g hg => if_neg (fun e => h (List.mem_map.2 ⟨g, hg, e⟩)))]
    rfl
theorem wiF_step (l : List Nod) (tr : Bool) (B : List (List Cdg)) (g : List Cdg) : updF (wiF l tr B) (g.length : Int) ((wiN l tr B (g.length : Int) : Int) + (scatN l tr (codesG g) : Int)) = wiF l tr (B ++ [g]) := by
  funext m
  unfold updF
  by_cases h : m = (g.length : Int)
  · subst h
    rw [if_pos rfl]
    unfold wiF
    rw [if_pos (by simp), wiN_snoc, if_pos rfl]
    simp
  · rw [if_neg h]
    unfold wiF
    have hx : m ∈ (B ++ [g]).map (fun g => (g.length : Int)) ↔ m ∈ B.map (fun g => (g.length : Int)) := by
      rw [List.map_append, List.mem_append]
      exact ⟨fun q => q.elim id (fun q => absurd (by simpa using q) h), .inl⟩
    have hw : wiN l tr (B ++ [g]) m = wiN l tr B m := by rw [wiN_snoc, if_neg (fun e : (g.length : Int) = m => h e.symm), Nat.add_zero]
    rw [hw]
    by_cases hm : m ∈ B.map (fun g => (g.length : Int))
    · rw [if_pos hm, if_pos (hx.2 hm)]
    · rw [if_neg hm, if_neg (fun q => hm (hx.1 q))]
/-- A sum by keys is a sum over all. -/
theorem sum_by {S : List Int} (hn : S.Nodup) (s : List Cdg → Nat) (c : Int → Nat) : ∀ (B : List (List Cdg)), (∀ g ∈ B, (g.length : Int) ∈ S) → sumN S (fun m => sumN B (fun g => if (g.length : Int) = m then s g else 0) * c m) = sumN B (fun g => s g * c (g.length : Int))
  | [], _ => by rw [sumN_zero (fun m _ => by rw [sumN_nil, Nat.zero_mul])]; rfl
  | g :: B, h => by
    have ih := sum_by hn s c B (fun x hx => h x (by simp [hx]))
    have e : sumN S (fun m => sumN (g :: B) (fun g => if (g.length : Int) = m then s g else 0) * c m) = sumN S (fun m => (if (g.length : Int) = m then s g * c m else 0) + sumN B (fun g => if (g.length : Int) = m then s g else 0) * c m) := sumN_congr (fun m _ => by
      rw [sumN_cons, Nat.add_mul]
      congr 1
      split
      · rfl
      · rw [Nat.zero_mul])
    rw [e, sumN_add, ih, sumN_one hn, if_pos (h g (by simp)), sumN_cons]
/-- A common multiple of 1 to 49. -/
def e49 : Nat := 608281864034267560872252163321295376887552831379210240000000000
theorem e49_dvd : ∀ k, k < 49 → e49 % (k + 1) = 0 := by decide +kernel
theorem e49_div {m : Int} (h1 : 2 ≤ m) (h2 : m ≤ 50) : e49 / (m - 1).toNat * (m - 1).toNat = e49 := by
  have := e49_dvd ((m - 1).toNat - 1) (by omega)
  rw [show (m - 1).toNat - 1 + 1 = (m - 1).toNat by omega] at this
  exact Nat.div_mul_cancel (Nat.dvd_of_mod_eq_zero this)
def c49 (m : Int) : Nat := e49 / (m - 1).toNat
theorem c49_le (m : Int) : c49 m ≤ e49 := Nat.div_le_self _ _
theorem part_49 {m : Int} (h1 : 2 ≤ m) (h2 : m ≤ 50) (s : Nat) : (s : Rat) / ((m - 1 : Int) : Rat) = ((s * c49 m : Nat) : Rat) / (e49 : Rat) := by
  have h := e49_div h1 h2
  have hm : ((m - 1 : Int) : Rat) = (((m - 1).toNat : Nat) : Rat) := by
    have e : (m - 1 : Int) = (((m - 1).toNat : Nat) : Int) := by omega
    exact (congrArg (fun z : Int => (z : Rat)) e).trans (Rat.intCast_natCast _)
  have h0 : (((m - 1).toNat : Nat) : Rat) ≠ 0 := by
    intro e
    have : (m - 1).toNat = 0 := by exact_mod_cast e
    omega
  have he : (e49 : Rat) ≠ 0 := by
    intro e
    have : e49 = 0 := by exact_mod_cast e
    exact absurd this (by decide)
  have hc : (e49 : Rat) = (c49 m : Rat) * (((m - 1).toNat : Nat) : Rat) := by rw [← h]; unfold c49; simp
  rw [hm, Rat.natCast_mul]
  generalize (((m - 1).toNat : Nat) : Rat) = q at *
  generalize (e49 : Rat) = E at *
  generalize (c49 m : Rat) = c at *
  generalize (s : Rat) = s at *
  grind
end Go.Proofs.YtngogjookldidaaGreatDoor

namespace Go.Proofs.YtngogjookldidaaGreatDoor
set_option linter.unusedVariables false
set_option linter.unusedSimpArgs false
theorem cdg_bad {l : List Nod} {cs : List Cdg} (h : frcF l cs = 0) : ∀ k, k < cs.length → cdgBad l cs k = 0 := by
  unfold frcF at h
  split at h
  · next h1 => exact absurd h h1
  unfold cdgF at h
  split at h
  · cases h
  exact scan_all _ h
/-- In a case the coders rise. -/
theorem grp_rise {l : List Nod} {cs : List Cdg} (h : frcF l cs = 0) : ∀ k, k ≤ cs.length → (∀ g ∈ grpK cs k, (g.map (·.2.1)).Pairwise (· < ·)) ∧ (0 < k → ∃ G g x, grpK cs k = G ++ [g ++ [x]] ∧ x = cs.getD (k - 1) cdg0 ∧ ∀ y ∈ g, y.2.1 < x.2.1)
  | 0, _ => ⟨by simp [grpK], by omega⟩
  | k + 1, hk => by
    obtain ⟨h1, h2⟩ := grp_rise h k (by omega)
    have hb := cdg_bad h k (by omega)
    unfold grpK
    split
    · next hs =>
      refine ⟨fun g hg => ?_, fun _ => ⟨grpK cs k, [], cs.getD k cdg0, rfl, rfl, by simp⟩⟩
      rcases List.mem_append.1 hg with hg | hg
      · exact h1 g hg
      · simp only [List.mem_singleton] at hg; subst hg; simp
    · next hs =>
      have hk0 : 0 < k := by
        rcases Nat.eq_zero_or_pos k with q | q
        · exact absurd (.inl q) hs
        · exact q
      have he : (cs.getD k cdg0).1 = (cs.getD (k - 1) cdg0).1 := Classical.byContradiction (fun q => hs (.inr q))
      obtain ⟨G, g, x, e, rfl, hy⟩ := h2 hk0
      have hlt : (cs.getD (k - 1) cdg0).2.1 < (cs.getD k cdg0).2.1 := by
        unfold cdgBad at hb
        rw [he] at hb
        split at hb
        · exact absurd hb (by decide)
        split at hb
        · exact absurd hb (by decide)
        split at hb
        · exact absurd hb (by decide)
        rw [if_neg (by omega), if_neg (by omega), if_pos rfl] at hb
        split at hb
        · exact absurd hb (by decide)
        split at hb
        · exact absurd hb (by decide)
        omega
      have hg0 := h1 (g ++ [cs.getD (k - 1) cdg0]) (by rw [e]; simp)
      rw [e, List.dropLast_concat, List.getLastD_eq_getLast?, List.getLast?_concat]
      have hall : ∀ y ∈ g ++ [cs.getD (k - 1) cdg0], y.2.1 < (cs.getD k cdg0).2.1 := by
        intro y hyy
        rcases List.mem_append.1 hyy with q | q
        · exact Int.lt_trans (hy y q) hlt
        · simp only [List.mem_singleton] at q; rw [q]; exact hlt
      refine ⟨fun g' hg' => ?_, fun _ => ⟨G, g ++ [cs.getD (k - 1) cdg0], cs.getD k cdg0, rfl, rfl, hall⟩⟩
      rcases List.mem_append.1 hg' with q | q
      · exact h1 g' (by rw [e]; exact List.mem_append_left _ q)
      · simp only [List.mem_singleton] at q
        subst q
        show ((g ++ [cs.getD (k - 1) cdg0] ++ [cs.getD k cdg0]).map (·.2.1)).Pairwise (· < ·)
        rw [List.map_append, List.pairwise_append]
        refine ⟨hg0, by simp, fun a ha b hb => ?_⟩
        obtain ⟨y, hyy, rfl⟩ := List.mem_map.1 ha
        simp only [List.map_cons, List.map_nil, List.mem_singleton] at hb
        rw [hb]
        exact hall y hyy
theorem grp_50 {l : List Nod} {cs : List Cdg} (h : frcF l cs = 0) : ∀ g ∈ grpK cs cs.length, g.length ≤ 50 := by
  intro g hg
  have h1 := (grp_rise h cs.length (Nat.le_refl _)).1 g hg
  have h2 := ((grpK_ok cs cs.length (Nat.le_refl _)).1 g hg).2.2
  have hn : (g.map (·.2.1)).Nodup := h1.imp (fun {a b} q e => by omega)
  have hs : ∀ c ∈ g.map (·.2.1), c ∈ (List.range 50).map (fun i : Nat => (i : Int) + 1) := by
    intro c hc
    obtain ⟨x, hx, rfl⟩ := List.mem_map.1 hc
    obtain ⟨i, hi, e⟩ := List.getElem_of_mem (h2 x hx)
    have hb := cdg_bad h i hi
    have ex : cs.getD i cdg0 = x := by rw [getD_elem0 _ _ _ hi, e]
    have ho : 1 ≤ x.2.1 ∧ x.2.1 ≤ 50 := by
      unfold cdgBad at hb
      rw [ex] at hb
      split at hb
      · exact absurd hb (by decide)
      split at hb
      · exact absurd hb (by decide)
      next q =>
      unfold outB at q
      simp at q
      omega
    exact List.mem_map.2 ⟨(x.2.1 - 1).toNat, List.mem_range.2 (by omega), by omega⟩
  have := nodup_lenC hn hs
  simpa using this
/-- The codes of a case are codes of the frame. -/
theorem grp_cod {l : List Nod} {cs : List Cdg} (h : frcF l cs = 0) : ∀ g ∈ grpK cs cs.length, ∀ c ∈ codesG g, (ix l c).isSome = true := by
  intro g hg c hc
  obtain ⟨x, hx, rfl⟩ := List.mem_map.1 hc
  obtain ⟨i, hi, e⟩ := List.getElem_of_mem (((grpK_ok cs cs.length (Nat.le_refl _)).1 g hg).2.2 x hx)
  have := (cdg_ok (Lib.hid rfl) h).2.2 i hi
  rwa [getD_elem0 _ _ _ hi, e] at this
theorem grpK_flat (cs : List Cdg) : ∀ k, k ≤ cs.length → ((grpK cs k).map List.length).sum = k
  | 0, _ => rfl
  | k + 1, hk => by
    have ih := grpK_flat cs k (by omega)
    obtain ⟨h1, h2, h3⟩ := grpK_ok cs k (by omega)
    unfold grpK
    split
    · rw [List.map_append, List.sum_append, ih]; rfl
    · next hn =>
      have hk0 : 0 < k := by
        rcases Nat.eq_zero_or_pos k with q | q
        · exact absurd (.inl q) hn
        · exact q
      have hne := h3 hk0
      have e := List.dropLast_concat_getLast hne
      have eD : (grpK cs k).getLastD [] = (grpK cs k).getLast hne := by rw [List.getLastD_eq_getLast?, List.getLast?_eq_some_getLast hne]; rfl
      rw [← e, List.map_append, List.sum_append] at ih
      simp only [List.map_cons, List.map_nil, List.sum_cons, List.sum_nil] at ih
      rw [List.map_append, List.sum_append, eD]
      simp only [List.map_cons, List.map_nil, List.sum_cons, List.sum_nil, List.length_append, List.length_cons, List.length_nil]
      omega
theorem alL_len (G : List (List Cdg)) : (alL G).length ≤ (G.map List.length).sum := by
  induction G with
  | nil => exact Nat.le_refl _
  | cons g G ih =>
    unfold alL bigG at *
    rw [List.filter_cons]
    split
    · rw [List.flatMap_cons, List.length_append, List.map_cons, List.sum_cons]
      unfold codesG at *
      rw [List.length_map]
      omega
    · rw [List.map_cons, List.sum_cons]; omega
theorem scatN_le {l : List Nod} {n : Nat} (h : TrOk l n) (tr : Bool) {A : List Int} (hv : ∀ c ∈ A, (ix l c).isSome = true) : scatN l tr A ≤ A.length * (A.length * 256) := by
  have key : ∀ B : List Int, (∀ c ∈ B, (ix l c).isSome = true) → (B.map (rowN l tr A)).sum ≤ B.length * (A.length * 256) := by
    intro B hB
    induction B with
    | nil => simp
    | cons y B ih =>
      rw [List.map_cons, List.sum_cons, List.length_cons, Nat.add_mul]
      have := rowN_le h tr hv (hB y (by simp))
      have := ih (fun c hc => hB c (by simp [hc]))
      omega
  exact key A hv
end Go.Proofs.YtngogjookldidaaGreatDoor

namespace Go.Proofs.YtngogjookldidaaGreatDoor
set_option linter.unusedVariables false
set_option linter.unusedSimpArgs false
noncomputable def obsN (l : List Nod) (tr : Bool) (B : List (List Cdg)) (S : List Int) : Nat := sumN S (fun m => wiN l tr B m * c49 m)
noncomputable def totN (l : List Nod) (tr : Bool) (B : List (List Cdg)) : Nat := sumN B (fun g => scatN l tr (codesG g))
noncomputable def seenN (l : List Nod) (tr : Bool) (B : List (List Cdg)) : Nat := sumN B (fun g => scatN l tr (codesG g) * c49 (g.length : Int))
theorem obs_all {l : List Nod} {tr : Bool} {B : List (List Cdg)} {S : List Int} (hn : S.Nodup) (h : ∀ g ∈ B, (g.length : Int) ∈ S) : obsN l tr B S = seenN l tr B := sum_by hn (fun g => scatN l tr (codesG g)) c49 B h
theorem sum_by_le {S : List Int} (hn : S.Nodup) (s : List Cdg → Nat) : ∀ (B : List (List Cdg)), sumN S (fun m => sumN B (fun g => if (g.length : Int) = m then s g else 0)) ≤ sumN B s
  | [] => by rw [sumN_zero (fun m _ => by rw [sumN_nil])]; exact Nat.zero_le _
  | g :: B => by
    have ih := sum_by_le hn s B
    have e : sumN S (fun m => sumN (g :: B) (fun g => if (g.length : Int) = m then s g else 0)) = sumN S (fun m => (if (g.length : Int) = m then s g else 0) + sumN B (fun g => if (g.length : Int) = m then s g else 0)) := sumN_congr (fun m _ => sumN_cons _ _ _)
    rw [e, sumN_add, sumN_one hn (g.length : Int) (fun _ => s g), sumN_cons]
    split <;> omega
theorem obs_le {l : List Nod} {tr : Bool} {B : List (List Cdg)} {S : List Int} (hn : S.Nodup) : obsN l tr B S ≤ totN l tr B * e49 := by
  refine Nat.le_trans (sumN_le (g := fun m => wiN l tr B m * e49) (fun m _ => Nat.mul_le_mul_left _ (c49_le m))) ?_
  rw [sumN_mul]
  exact Nat.mul_le_mul_right _ (sum_by_le hn (fun g => scatN l tr (codesG g)) B)
theorem wi_le {l : List Nod} {tr : Bool} {B : List (List Cdg)} (m : Int) : wiN l tr B m ≤ totN l tr B := sumN_le (fun g _ => by split <;> omega)
theorem bigG_sum (G : List (List Cdg)) : ((bigG G).map List.length).sum ≤ (G.map List.length).sum := by
  have := alL_len G
  have e : ((bigG G).map List.length).sum = (alL G).length := by
    unfold alL
    generalize bigG G = B
    induction B with
    | nil => rfl
    | cons g B ih => rw [List.map_cons, List.sum_cons, List.flatMap_cons, List.length_append, ih]; unfold codesG; rw [List.length_map]
  omega
theorem tot_le {l : List Nod} {n : Nat} (h : TrOk l n) (tr : Bool) {G : List (List Cdg)} (h50 : ∀ g ∈ G, g.length ≤ 50) (hv : ∀ g ∈ G, ∀ c ∈ codesG g, (ix l c).isSome = true) (hs : (G.map List.length).sum ≤ 20000) : totN l tr (bigG G) ≤ 256000000 := by
  have h1 : totN l tr (bigG G) ≤ sumN (bigG G) (fun g => g.length * 12800) := sumN_le (fun g hg => by
    have hg2 := (List.mem_filter.1 hg).1
    have := scatN_le h tr (hv g hg2)
    have h5 := h50 g hg2
    unfold codesG at this
    rw [List.length_map] at this
    refine Nat.le_trans this (Nat.mul_le_mul_left _ ?_)
    omega)
  rw [sumN_mul] at h1
  have h2 : sumN (bigG G) (fun g => g.length) ≤ 20000 := Nat.le_trans (bigG_sum G) hs
  exact Nat.le_trans h1 (Nat.mul_le_mul_right 12800 h2)
theorem e49_ne : (e49 : Rat) ≠ 0 := by
  intro e
  have : e49 = 0 := by exact_mod_cast e
  exact absurd this (by decide)
theorem sum_49 (a b : Nat) : (a : Rat) / (e49 : Rat) + (b : Rat) / (e49 : Rat) = ((a + b : Nat) : Rat) / (e49 : Rat) := by
  have he := e49_ne
  rw [Rat.natCast_add]
  generalize (e49 : Rat) = E at *
  generalize (a : Rat) = x at *
  generalize (b : Rat) = y at *
  grind
theorem nat_int (a : Nat) : ((a : Int) : Rat) = (a : Rat) := Rat.intCast_natCast a
theorem fine_49 {a : Nat} (h : a ≤ 256000000 * e49) : ∃ S T, ratR ((a : Rat) / (e49 : Rat)) = (S, T, 0) ∧ S.size ≤ 201 ∧ T.size ≤ 200 := by
  rw [← nat_int a, ← nat_int e49]
  refine ratR_fineQ (by decide) ?_ (by decide)
  rw [Int.natAbs_natCast]
  exact Nat.lt_of_le_of_lt h (by decide)
theorem fine_prod {a n s : Nat} (h : a ≤ 256000000 * e49) (hn : n ≤ 20000) (hs : s ≤ 1000000000000) (h0 : s ≠ 0) : ∃ S T, ratR ((a : Rat) / (e49 : Rat) * (((-((n : Int) - 1) : Int) : Rat) / ((s : Int) : Rat))) = (S, T, 0) ∧ S.size ≤ 201 ∧ T.size ≤ 200 := by
  have he := e49_ne
  have hs0 : ((s : Int) : Rat) ≠ 0 := by rw [nat_int]; intro e; exact h0 (by exact_mod_cast e)
  have e : (a : Rat) / (e49 : Rat) * (((-((n : Int) - 1) : Int) : Rat) / ((s : Int) : Rat)) = (((a : Int) * (-((n : Int) - 1)) : Int) : Rat) / (((e49 : Int) * (s : Int) : Int) : Rat) := by
    rw [Rat.intCast_mul, Rat.intCast_mul, nat_int a, nat_int e49]
    generalize (e49 : Rat) = E at *
    generalize (a : Rat) = x at *
    generalize ((-((n : Int) - 1) : Int) : Rat) = y at *
    generalize ((s : Int) : Rat) = z at *
    grind
  rw [e]
  refine ratR_fineQ ?_ ?_ ?_
  · refine Int.mul_ne_zero (by decide) (by omega)
  · rw [Int.natAbs_mul, Int.natAbs_natCast]
    have h1 : (-((n : Int) - 1)).natAbs ≤ 20000 := by omega
    exact Nat.lt_of_le_of_lt (Nat.mul_le_mul h h1) (by decide)
  · rw [Int.natAbs_mul, Int.natAbs_natCast, Int.natAbs_natCast]
    exact Nat.lt_of_le_of_lt (Nat.mul_le_mul_left _ hs) (by decide)
noncomputable def alpR (l : List Nod) (tr : Bool) (G : List (List Cdg)) : ByteArray × ByteArray × Int :=
  if (alL G).length = 0 then (⟨#[]⟩, ⟨#[]⟩, 9) else if scatN l tr (alL G) = 0 then ratR (((1 : Int) : Rat) / ((1 : Int) : Rat))
  else ratR (((1 : Int) : Rat) / ((1 : Int) : Rat) + (seenN l tr (bigG G) : Rat) / (e49 : Rat) * (((-(((alL G).length : Int) - 1) : Int) : Rat) / ((scatN l tr (alL G) : Int) : Rat)))
noncomputable def alpF (l : List Nod) (cs : List Cdg) (tr : Bool) : ByteArray × ByteArray × Int := if frcF l cs ≠ 0 then (⟨#[]⟩, ⟨#[]⟩, frcF l cs) else alpR l tr (grpK cs cs.length)
end Go.Proofs.YtngogjookldidaaGreatDoor
