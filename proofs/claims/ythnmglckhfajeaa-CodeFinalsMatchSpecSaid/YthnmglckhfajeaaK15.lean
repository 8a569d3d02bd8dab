/- The walk of CodeLiftsAgree, and its plain law. Conditions: those that the claim form gives. -/
import Derived.Test.YthnmglckhfajeaaK14
namespace Go.Proofs.Ythnmglckhfajeaa
open Go.RowKit
set_option linter.unusedVariables false

theorem upA_length (l : List Nod) : ∀ (m : Nat) (c : Int), (upA l m c).length = m
  | 0, c => rfl
  | m + 1, c => by rw [upA, List.length_cons, upA_length l m]
section
variable {l : List Nod} {n : Nat}
theorem upL_length (h : TrOk l n) {c : Int} (hc : (ix l c).isSome = true) : (upL l c).length = lvl l c ∧ 0 < lvl l c := by
  obtain ⟨⟨m, hm, _⟩, h0⟩ := code_lv h hc
  obtain ⟨e1, e2⟩ := upL_eq h.len hm
  obtain ⟨j, rfl⟩ := lvA_pos hm h0
  exact ⟨by rw [e1, upA_length, e2], by omega⟩
theorem liftC_vld (h : TrOk l n) {c : Int} (hc : (ix l c).isSome = true) {lev : Nat} (hl : 1 ≤ lev) : (ix l (liftC l lev c)).isSome = true := by
  obtain ⟨e1, e2⟩ := upL_length h hc
  unfold liftC
  rw [getD_elem0 _ _ _ (by omega)]
  exact upL_vld h (.inr hc) (List.getElem_mem _)
theorem par_vld (h : TrOk l n) {c : Int} (hc : (ix l c).isSome = true) (h2 : 1 < lvl l c) : (ix l (parC l c)).isSome = true := by
  obtain ⟨i, _, _, _, _, h5⟩ := h.up hc
  rcases h5 with h5 | h5
  · exfalso
    have := (lvl_par h hc).1
    rw [h5, lvl_zero] at this; omega
  · exact h5
theorem liftC_lift (h : TrOk l n) {a b : Nat} (ha : 1 ≤ a) (hab : a ≤ b) : ∀ (d : Nat) {c : Int}, (ix l c).isSome = true → lvl l c ≤ d → liftC l a (liftC l b c) = liftC l a c
  | 0, c, hc, hd => by have := (upL_length h hc).2; omega
  | d + 1, c, hc, hd => by
    by_cases hl : lvl l c ≤ b
    · rw [liftC_stop h hc hl]
    · rw [liftC_step h hc (by omega), liftC_step h hc (lev := a) (by omega)]
      exact liftC_lift h ha hab d (par_vld h hc (by omega)) (by have := (lvl_par h hc).1; omega)
end
theorem frc_iff {l : List Nod} {cs : List Cdg} : frcF l cs = 0 ↔ treeF l = 0 ∧ cs.length ≤ 20000 ∧ ∀ k, k < cs.length → cdgBad l cs k = 0 := by
  unfold frcF cdgF
  constructor
  · intro h
    split at h
    · next h1 => exact absurd h h1
    next h1 =>
      split at h
      · cases h
      next h2 => exact ⟨by simpa using h1, by omega, fun k hk => scan_all _ h k hk⟩
  · rintro ⟨h1, h2, h3⟩
    rw [if_neg (by simp [h1]), if_neg (by omega), scan_zero _ _ h3]
theorem cdg_vld {l : List Nod} {cs : List Cdg} (h : frcF l cs = 0) : ∀ x ∈ cs, (ix l x.2.2).isSome = true := by
  intro x hx
  obtain ⟨i, hi, rfl⟩ := List.getElem_of_mem hx
  have := (cdg_ok (Lib.hid rfl) h).2.2 i hi
  rwa [getD_elem0 _ _ _ hi] at this
theorem bad_map {l : List Nod} {cs : List Cdg} {g : Cdg → Cdg} (hg : ∀ x, (g x).1 = x.1 ∧ (g x).2.1 = x.2.1) (hv : ∀ x ∈ cs, (ix l x.2.2).isSome = true ∧ (ix l (g x).2.2).isSome = true) {k : Nat} (hk : k < cs.length) : cdgBad l (cs.map g) k = cdgBad l cs k := by
  have e : ∀ j, j < cs.length → (cs.map g).getD j cdg0 = g (cs.getD j cdg0) := fun j hj => by
    rw [getD_elem0 _ _ _ (by simpa using hj), getD_elem0 _ _ _ hj, List.getElem_map]
  have v : (ix l (cs.getD k cdg0).2.2).isSome = true ∧ (ix l (g (cs.getD k cdg0)).2.2).isSome = true := by
    rw [getD_elem0 _ _ _ hk]; exact hv _ (List.getElem_mem _)
  unfold cdgBad
  rw [e k hk, e (k - 1) (by omega), (hg _).1, (hg _).2, (hg _).1, (hg _).2, v.1, v.2]
theorem lift_frc {l : List Nod} {cs : List Cdg} (h : frcF l cs = 0) {lev : Nat} (hl : 1 ≤ lev) : frcF l (cs.map (liftX l lev)) = 0 := by
  obtain ⟨h1, h2, h3⟩ := frc_iff.1 h
  have ht := treeF_zero h1
  refine frc_iff.2 ⟨h1, by simpa using h2, fun k hk => ?_⟩
  rw [bad_map (g := liftX l lev) (fun x => ⟨rfl, rfl⟩) (fun x hx => ⟨cdg_vld h x hx, liftC_vld ht (cdg_vld h x hx) hl⟩) (by simpa using hk)]
  exact h3 k (by simpa using hk)
theorem rec_same {l : List Nod} {cs : List Cdg} (h : frcF l cs = 0) : recF l l [] cs = (cs, [], 0) := by
  obtain ⟨h1, h2, h3⟩ := frc_iff.1 h
  have ht := treeF_zero h1
  have hc : cdgF l cs = 0 := by unfold frcF at h; rwa [if_neg (by simp [h1])] at h
  have e : ∀ x ∈ cs, recC l l (mvK [] 0) x.2.2 = x.2.2 := fun x hx => by unfold recC mvK; simp [cdg_vld h x hx]
  have z : ∀ x ∈ cs, x.2.2 ≠ 0 := fun x hx => (code_lv ht (cdg_vld h x hx)).2
  rw [recF, if_neg (by simp [h1]), if_neg (by simp [h1]), if_neg (by simp [mvsF, scan]), if_neg (by simp [hc])]
  have e1 : recD l l (mvK [] 0) cs = cs := by
    unfold recD
    clear h h1 h2 h3 hc ht
    induction cs with
    | nil => rfl
    | cons x cs ih =>
      have q := e x (by simp)
      rw [List.filterMap_cons, q, if_neg (z x (by simp))]
      dsimp only
      rw [ih (fun y hy => e y (by simp [hy])) (fun y hy => z y (by simp [hy]))]
  have e2 : recL l l (mvK [] 0) cs = [] := by
    unfold recL
    rw [List.filter_eq_nil_iff]
    intro x hx
    rw [e x hx]
    simp [z x hx]
  rw [List.length_nil, e1, e2]
theorem lift_law (l : List Nod) (cs : List Cdg) (lev hi : Int) : ((liftF l cs lev).2 ≠ 0 → (liftF l cs lev).1 = []) ∧ ((liftF l cs lev).2 = 0 → ((liftF l cs hi).2 = 0 → hi ≤ lev → liftF l (liftF l cs lev).1 hi = liftF l cs hi) ∧ recF l l [] cs = (cs, [], 0)) := by
  by_cases h : frcF l cs = 0
  · by_cases h1 : outB lev 1 8 = true
    · have e : liftF l cs lev = ([], 1) := by rw [liftF, h, if_neg (by simp), if_pos h1]
      rw [e]; simp
    · have e : liftF l cs lev = (cs.map (liftX l lev.toNat), 0) := by rw [liftF, h, if_neg (by simp), if_neg h1]
      rw [e]
      refine ⟨by simp, fun _ => ⟨fun h2 hle => ?_, rec_same h⟩⟩
      by_cases h3 : outB hi 1 8 = true
      · have e : liftF l cs hi = ([], 1) := by rw [liftF, h, if_neg (by simp), if_pos h3]
        rw [e] at h2; cases h2
      · have e2 : liftF l cs hi = (cs.map (liftX l hi.toNat), 0) := by rw [liftF, h, if_neg (by simp), if_neg h3]
        have b1 := outB_false.1 (Bool.not_eq_true _ ▸ h1)
        have b2 := outB_false.1 (Bool.not_eq_true _ ▸ h3)
        have ht := treeF_zero (frc_iff.1 h).1
        rw [e2]
        dsimp only
        rw [liftF, lift_frc h (by omega), if_neg (by simp), if_neg h3, List.map_map]
        congr 1
        apply List.map_congr_left
        intro x hx
        have := liftC_lift ht (a := hi.toNat) (b := lev.toNat) (by omega) (by omega) (lvl l x.2.2) (cdg_vld h x hx) (Nat.le_refl _)
        show (x.1, x.2.1, liftC l hi.toNat (liftC l lev.toNat x.2.2)) = (x.1, x.2.1, liftC l hi.toNat x.2.2)
        rw [this]
  · have e : liftF l cs lev = ([], frcF l cs) := by rw [liftF, if_pos h]
    rw [e]; simp [h]

theorem EqualC_t (n : Nat) (a : Option Addr) (cap : Nat) (xs : List Cdg) (m : Nat) (a2 : Option Addr) (cap2 : Nat) (ys : List Cdg) (w : World) (φ : Phi) (hφ : Fz φ w) (hs : SlV φ a cap xs) (hs2 : SlV φ a2 cap2 ys) (h1 : Hid (xs.length = n)) (h2 : Hid (ys.length = m)) (hl : n ≤ 9223372036854775807) (he : xs = ys) :
    Calls Try.prog 10 #[.slice a n cap, .slice a2 m cap2] w fun e w' => e = .returned (.bool true) ∧ Below w.heap.size w w' := by
  have := EqualC n a cap xs m a2 cap2 ys w φ hφ hs hs2 h1 h2 hl; rwa [decide_eq_true he] at this
theorem lift_len (l : List Nod) (cs : List Cdg) (lev : Int) : (liftF l cs lev).1.length ≤ cs.length := by
  unfold liftF; split
  · simp
  · split <;> simp

set_option maxRecDepth 100000 in
set_option maxHeartbeats 2000000 in
theorem lifts_core {w : World} {φ : Phi} (hφ : Fz φ w) {a : Option Addr} {c n : Nat} {l : List Nod} (s : SlV φ a c l) (hn : Hid (l.length = n)) (hm : n ≤ 9223372036854775807) {ac : Option Addr} {cc nc : Nat} {cs : List Cdg} (sc : SlV φ ac cc cs) (hnc : Hid (cs.length = nc)) (hmc : nc ≤ 9223372036854775807) (lev hi : Int) :
    Calls Try.prog 4 #[.slice a n c, .slice ac nc cc, .int .i64 lev, .int .i64 hi] w fun e w' => e = .returned (.bool true) ∧ Below w.heap.size w w' := by
  have law := lift_law l cs lev hi
  have hl1 := lift_len l cs lev
  have hl2 := lift_len l cs hi
  rw [hnc.out] at hl1 hl2
  obtain ⟨r1, hr1⟩ : ∃ r, Hid (liftF l cs lev = r) := ⟨_, Lib.hid rfl⟩
  obtain ⟨r2, hr2⟩ : ∃ r, Hid (liftF l cs hi = r) := ⟨_, Lib.hid rfl⟩
  rw [hr1.out] at law hl1
  rw [hr2.out] at law hl2
  obtain ⟨xs, q1⟩ := r1
  obtain ⟨ys, q2⟩ := r2
  dsimp only at law hl1 hl2
  have LAW := Lib.hid law
  clear law
  go_enter Try.func4, Try.ntmps4
  go_wp2_with fail
  refine (Lift_any hφ s hn hm sc hnc hmc lev).mono ?_
  rintro e w1 ⟨a1, c1, φ1, rfl, hi1, s1⟩
  have I1 := Lib.hid hi1
  rw [hr1.out] at s1 ⊢
  dsimp only at s1 ⊢
  clear hi1
  by_cases h0 : q1 = 0
  case neg =>
    have hx := LAW.out.1 h0
    subst hx
    have hg : ((q1 : Int) != 0) = true := by simp [h0]
    clear h0
    go_wp2
    go_ret
    exact ⟨rfl, I1.out.bel⟩
  obtain ⟨l1, l2⟩ := LAW.out.2 h0
  have L1 := Lib.hid l1
  have L2 := Lib.hid l2
  have hg : ((q1 : Int) != 0) = false := by simp [h0]
  clear h0 l1 l2 LAW
  go_wp2_with fail
  refine (Lift_any I1.out.fz (s.mono I1.out.le) hn hm (sc.mono I1.out.le) hnc hmc hi).mono ?_
  rintro e w2 ⟨a2, c2, φ2, rfl, hi2, s2⟩
  have I2 := Lib.hid (I1.out.call hi2)
  have s1' := s1.mono hi2.le
  rw [hr2.out] at s2 ⊢
  dsimp only at s2 ⊢
  clear hi2 s1 hg I1
  obtain ⟨nx, hnx⟩ : ∃ nx, Hid (xs.length = nx) := ⟨_, Lib.hid rfl⟩
  obtain ⟨ny, hny⟩ : ∃ ny, Hid (ys.length = ny) := ⟨_, Lib.hid rfl⟩
  rw [hnx.out] at hl1 ⊢
  rw [hny.out] at hl2 ⊢
  by_cases h2 : q2 = 0 ∧ hi ≤ lev
  · obtain ⟨h2, hle⟩ := h2
    have hz : Hid (liftF l xs hi = (ys, q2)) := Lib.hid (L1.out h2 hle)
    subst h2
    have hd : decide (hi ≤ lev) = true := decide_eq_true hle
    clear hle L1
    go_wp2_with fail
    refine (Lift_any I2.out.fz (s.mono I2.out.le) hn hm s1' hnx (by omega) hi).mono ?_
    rintro e w3 ⟨a3, c3, φ3, rfl, hi3, s3⟩
    have I3 := Lib.hid (I2.out.call hi3)
    have s2' := s2.mono hi3.le
    rw [hz.out] at s3 ⊢
    dsimp only at s3 ⊢
    rw [hny.out]
    clear hi3 s2 I2
    go_wp2_with fail
    refine (EqualC_t ny a2 c2 ys ny a3 c3 ys w3 φ3 I3.out.fz s2' s3 hny hny (by omega) rfl).mono ?_
    rintro e w4 ⟨rfl, hb⟩
    have I4 := Lib.hid (I3.out.callB hb)
    clear hb I3
    go_wp2_with fail
    refine (Recode_any (ms := []) (am := none) (cm := 0) I4.out.fz (s.mono I4.out.le) hn hm (s.mono I4.out.le) hn hm (SlV.empty _) (Lib.hid rfl) (by simp) (sc.mono I4.out.le) hnc hmc).mono ?_
    rintro e w5 ⟨a5, c5, a6, c6, φ5, rfl, hi5, s5, s6⟩
    have I5 := Lib.hid (I4.out.call hi5)
    rw [L2.out] at s5 s6 ⊢
    dsimp only at s5 s6 ⊢
    rw [hnc.out]
    clear hi5 I4
    go_wp2_with fail
    refine (EqualC_t nc a5 c5 cs nc ac cc cs w5 _ I5.out.fz s5 (sc.mono I5.out.le) hnc hnc hmc rfl).mono ?_
    rintro e w6 ⟨rfl, hb⟩
    have I6 := Lib.hid (I5.out.callB hb)
    clear hb I5
    go_wp2
    go_ret
    exact ⟨rfl, I6.out.bel⟩
  · have I4 := I2
    by_cases h3 : q2 = 0
    · subst h3
      have hd : decide (hi ≤ lev) = false := decide_eq_false (fun h => h2 ⟨rfl, h⟩)
      clear h2
      go_wp2_with fail
      refine (Recode_any (ms := []) (am := none) (cm := 0) I4.out.fz (s.mono I4.out.le) hn hm (s.mono I4.out.le) hn hm (SlV.empty _) (Lib.hid rfl) (by simp) (sc.mono I4.out.le) hnc hmc).mono ?_
      rintro e w5 ⟨a5, c5, a6, c6, φ5, rfl, hi5, s5, s6⟩
      have I5 := Lib.hid (I4.out.call hi5)
      rw [L2.out] at s5 s6 ⊢
      dsimp only at s5 s6 ⊢
      rw [hnc.out]
      clear hi5 I4
      go_wp2_with fail
      refine (EqualC_t nc a5 c5 cs nc ac cc cs w5 _ I5.out.fz s5 (sc.mono I5.out.le) hnc hnc hmc rfl).mono ?_
      rintro e w6 ⟨rfl, hb⟩
      have I6 := Lib.hid (I5.out.callB hb)
      clear hb I5
      go_wp2
      go_ret
      exact ⟨rfl, I6.out.bel⟩
    · have hd : ((q2 : Int) == 0) = false := by simp [h3]
      clear h2 h3
      go_wp2_with fail
      refine (Recode_any (ms := []) (am := none) (cm := 0) I4.out.fz (s.mono I4.out.le) hn hm (s.mono I4.out.le) hn hm (SlV.empty _) (Lib.hid rfl) (by simp) (sc.mono I4.out.le) hnc hmc).mono ?_
      rintro e w5 ⟨a5, c5, a6, c6, φ5, rfl, hi5, s5, s6⟩
      have I5 := Lib.hid (I4.out.call hi5)
      rw [L2.out] at s5 s6 ⊢
      dsimp only at s5 s6 ⊢
      rw [hnc.out]
      clear hi5 I4
      go_wp2_with fail
      refine (EqualC_t nc a5 c5 cs nc ac cc cs w5 _ I5.out.fz s5 (sc.mono I5.out.le) hnc hnc hmc rfl).mono ?_
      rintro e w6 ⟨rfl, hb⟩
      have I6 := Lib.hid (I5.out.callB hb)
      clear hb I5
      go_wp2
      go_ret
      exact ⟨rfl, I6.out.bel⟩
theorem rCdg (H : Type) (enc : TypeId × Value → H) (W : World) : Reads enc Try.prog W 27 (List Cdg) (fun xs => xs.length * Try.prog.bytesOf 32 ≤ reachBytes ∧ ∀ x ∈ xs, IsI64 x.1 ∧ IsI64 x.2.1 ∧ IsI64 x.2.2) :=
  Reads.slice Try.underlying27 (by kernel_rfl) (by decide) (Reads.struct3 (s1 := 1) (s2 := 1) (s3 := 1) Try.underlying32 (by kernel_rfl) (by kernel_rfl) (by kernel_rfl) (by kernel_rfl) (by kernel_rfl) (by kernel_rfl) (by kernel_rfl) (rInt H enc W) (rInt H enc W) (rInt H enc W))
theorem cdgs_len {l : List Cdg} (h : l.length * Try.prog.bytesOf 32 ≤ reachBytes) : l.length ≤ 9223372036854775807 := by
  have hb : Try.prog.bytesOf 32 = 24 := by kernel_rfl
  rw [hb] at h; unfold reachBytes at h; omega
theorem codeLiftsAgree_walk (w : World) (φ : Phi) (hφ : Fz φ w) (ad : Option Addr) (cp : Nat) (l : List Nod) (s : SlV φ ad cp l) (g : l.length * Try.prog.bytesOf 68 ≤ reachBytes ∧ ∀ x ∈ l, IsI64 x.1 ∧ IsI64 x.2.1 ∧ StrG x.2.2)
    (ac : Option Addr) (cc : Nat) (cs : List Cdg) (sc : SlV φ ac cc cs) (gc : cs.length * Try.prog.bytesOf 32 ≤ reachBytes ∧ ∀ x ∈ cs, IsI64 x.1 ∧ IsI64 x.2.1 ∧ IsI64 x.2.2) (a : Int) (ga : IsI64 a) (b : Int) (gb : IsI64 b) :
    Calls Try.prog 4 #[.slice ad l.length cp, .slice ac cs.length cc, .int .i64 a, .int .i64 b] w fun e w' => e = .returned (.bool true) ∧ Below w.heap.size w w' :=
  lifts_core hφ s (Lib.hid rfl) (nodes_len g.1) sc (Lib.hid rfl) (cdgs_len gc.1) a b
end Go.Proofs.Ythnmglckhfajeaa
