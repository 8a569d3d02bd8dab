/- The first of the sorted sets that is enough is the lightest; the walks of the reference's least and Least. Conditions: the library's table of blanks reads as it was laid. -/
import Derived.Test.YtambgcijceecpaaDoorQ11
namespace Go.Proofs.YtambgcijceecpaaDoor
open Go.RowKit
set_option linter.unusedVariables false
/-- A number whose bits are as asked. -/
def numOf (p : Nat → Bool) : Nat → Nat
  | 0 => 0
  | n + 1 => numOf p n ||| (if p n = true then 2 ^ n else 0)
theorem numOf_lt (p : Nat → Bool) : ∀ n, numOf p n < 2 ^ n
  | 0 => by simp [numOf]
  | n + 1 => by
    have h1 := numOf_lt p n
    have h2 : 2 ^ n < 2 ^ (n + 1) := Nat.pow_lt_pow_right (by decide) (by omega)
    rw [numOf]
    refine Nat.or_lt_two_pow (by omega) ?_
    split
    · exact h2
    · omega
theorem numOf_test (p : Nat → Bool) : ∀ {n i : Nat}, i < n → (numOf p n).testBit i = p i
  | n + 1, i, hi => by
    rw [numOf, Nat.testBit_or]
    by_cases e : i = n
    · subst e
      rw [Nat.testBit_lt_two_pow (numOf_lt p i), Bool.false_or]
      by_cases h : p i = true
      · rw [if_pos h, Nat.testBit_two_pow, h]; simp
      · rw [if_neg h]; simp; simpa using h
    · rw [numOf_test p (by omega)]
      split
      · rw [Nat.testBit_two_pow]; simp; intro h; omega
      · simp
theorem apL_set (a b : List Int) (n : Nat) : apL a b n ∈ setsK n (2 ^ n) := by
  unfold setsK
  rw [List.mem_map]
  refine ⟨numOf (fun i => decide (a.getD i 0 ≠ b.getD i 0)) n, List.mem_range.2 (numOf_lt _ _), ?_⟩
  unfold setK apL
  congr 1
  apply List.filter_congr
  intro i hi
  exact numOf_test _ (List.mem_range.1 hi)
theorem setK_sorted (v k : Nat) : (setK v k).Pairwise (· < ·) := by
  unfold setK
  rw [List.pairwise_map]
  refine List.Pairwise.filter _ ?_
  refine List.Pairwise.imp ?_ (List.pairwise_lt_range (n := k))
  intro x y h
  exact Int.ofNat_lt.2 h
theorem sorted_ext : ∀ {a b : List Int}, a.Pairwise (· < ·) → b.Pairwise (· < ·) → (∀ x, x ∈ a ↔ x ∈ b) → a = b
  | [], [], _, _, _ => rfl
  | [], y :: b, _, _, h => by have := (h y).2 (by simp); simp at this
  | x :: a, [], _, _, h => by have := (h x).1 (by simp); simp at this
  | x :: a, y :: b, ha, hb, h => by
    rw [List.pairwise_cons] at ha hb
    have hxy : x = y := by
      rcases List.mem_cons.1 ((h x).1 (by simp)) with e | e
      · exact e
      · rcases List.mem_cons.1 ((h y).2 (by simp)) with e2 | e2
        · exact e2.symm
        · have := ha.1 y e2; have := hb.1 x e; omega
    subst hxy
    congr 1
    refine sorted_ext ha.2 hb.2 (fun z => ⟨fun hz => ?_, fun hz => ?_⟩)
    · rcases List.mem_cons.1 ((h z).1 (by simp [hz])) with e | e
      · have := ha.1 z hz; omega
      · exact e
    · rcases List.mem_cons.1 ((h z).2 (by simp [hz])) with e | e
      · have := hb.1 z hz; omega
      · exact e
theorem sub_light {fs : List Fld} {es : List Edt} {n m : Nat} (h : PlOk fs es n m) {c l : List Int} (hc : c.Pairwise (· < ·)) (hl : l.Pairwise (· < ·)) (hg : ∀ k ∈ l, 0 ≤ k ∧ k < (n : Int)) (hs : ∀ x ∈ c, x ∈ l) : c = l ∨ wSum fs c < wSum fs l := by
  by_cases hh : ∀ x ∈ l, x ∈ c
  · exact .inl (sorted_ext hc hl (fun x => ⟨hs x, hh x⟩))
  · right
    obtain ⟨k, hk, hkc⟩ : ∃ k, k ∈ l ∧ k ∉ c := by
      simp only [Classical.not_forall] at hh
      obtain ⟨k, h1, h2⟩ := hh
      exact ⟨k, h1, h2⟩
    have e := sum_erase (wOf fs) hk
    have hw := wts h (hg k hk).1 (hg k hk).2
    have h2 := sum_le (wOf fs) (nodup_of_lt hc) (b := l.erase k) (fun x hx => (List.mem_erase_of_ne (fun q => hkc (by rw [← q]; exact hx))).2 (hs x hx)) (fun x hx => by
      have := hg x (List.mem_of_mem_erase hx)
      have := wts h this.1 this.2
      omega)
    unfold wSum
    omega
/-- What a set that is enough holds. -/
theorem enough {fs : List Fld} {es : List Edt} {n m : Nat} {rec l : List Int} (hr : rec.length = n) (h : (firstS fs es n m rec l).2 = true) :
    ∃ y, y ∈ comps fs (List.replicate n true) n 0 (List.replicate n 0) ∧ (failL es y n m).length = 0 ∧ ∀ x ∈ apL rec y n, x ∈ l := by
  obtain ⟨k1, k2⟩ := firstS_some h
  obtain ⟨k3, k4⟩ := (mem_first hr).1 k1
  obtain ⟨k5, k6⟩ := pass_parts.1 k2
  refine ⟨_, mem_all.2 ⟨k3, k5⟩, k6, fun x hx => ?_⟩
  obtain ⟨j, rfl, hj, hne⟩ := mem_apL.1 hx
  have := k4 j hj
  by_cases hjo : (j : Int) ∈ l
  · exact hjo
  · rw [if_neg hjo] at this; exact absurd this.symm hne
theorem least_ref {fs : List Fld} {es : List Edt} {n m : Nat} (h : PlOk fs es n m) {rec : List Int} (hr : rec.length = n) {rs : List (List Int)} (hp : rs.Perm (setsK n (2 ^ n))) (hs : Sor fs rs) :
    rs.find? (fun l => (firstS fs es n m rec l).2) = if (leastS fs es n m rec).1.2.2 = true then some (leastS fs es n m rec).1.1 else none := by
  have hI := leastS_inv fs es n m rec
  have hset : ∀ l ∈ rs, l.Pairwise (· < ·) ∧ ∀ k ∈ l, 0 ≤ k ∧ k < (n : Int) := fun l hl => by
    have := hp.mem_iff.1 hl
    unfold setsK at this
    obtain ⟨v, _, rfl⟩ := List.mem_map.1 this
    exact ⟨setK_sorted v n, (setK_G v n).mem⟩
  cases hfo : (leastS fs es n m rec).1.2.2 with
  | false =>
    rw [if_neg (by simp), List.find?_eq_none]
    intro l hl
    cases hq : (firstS fs es n m rec l).2 with
    | false => simp
    | true =>
      obtain ⟨y, h1, h2, _⟩ := enough hr hq
      exact absurd h2 (hI.no hfo y h1)
  | true =>
    rw [if_pos rfl]
    obtain ⟨b, hb⟩ : ∃ b, (leastS fs es n m rec).1.1 = b := ⟨_, rfl⟩
    obtain ⟨lw, hlw⟩ : ∃ lw, (leastS fs es n m rec).1 = (b, lw, true) := ⟨(leastS fs es n m rec).1.2.1, by rw [← hb, ← hfo]⟩
    rw [hb]
    rw [hlw] at hI
    obtain ⟨_, ⟨x0, hx0, hf0, he0⟩, h3⟩ := hI.yes rfl
    dsimp only at he0 h3
    have hbl := (least_law h hr hlw).2.1
    have hbm : b ∈ rs := hp.mem_iff.2 (by rw [he0]; exact apL_set _ _ _)
    cases hfd : rs.find? (fun l => (firstS fs es n m rec l).2) with
    | none =>
      rw [List.find?_eq_none] at hfd
      exact absurd hbl (hfd b hbm)
    | some l =>
      obtain ⟨hlp, as', bs', e, hno⟩ := List.find?_eq_some_iff_append.1 hfd
      have hlm := List.mem_of_find?_eq_some hfd
      have h1 : ahead fs b l = false := by
        rw [e] at hbm hs
        unfold Sor at hs
        rw [List.pairwise_append, List.pairwise_cons] at hs
        rcases List.mem_append.1 hbm with hm | hm
        · have := hno b hm; rw [hbl] at this; simp at this
        · rcases List.mem_cons.1 hm with rfl | hm
          · exact ahead_irrefl
          · exact hs.2.1.1 b hm
      have h2 : ahead fs l b = false := by
        obtain ⟨y, k1, k2, k3⟩ := enough hr hlp
        have k4 := h3 y k1 k2
        obtain ⟨g1, g2⟩ := hset l hlm
        rcases sub_light h (apL_sorted rec y n) g1 g2 k3 with e2 | e2
        · rw [e2] at k4; exact k4
        · cases hq : ahead fs l b with
          | false => rfl
          | true =>
            have h5 : ahead fs (apL rec y n) l = true := ahead_iff.2 (.inl e2)
            rw [ahead_trans h5 hq] at k4; cases k4
      rw [ahead_total h2 h1]
theorem find_at {α : Type} {p : α → Bool} {d : α} : ∀ {l : List α} {k : Nat}, k < l.length → (∀ i, i < k → p (l.getD i d) = false) → p (l.getD k d) = true → l.find? p = some (l.getD k d)
  | x :: l, 0, _, _, h => by
    have h' : p x = true := h
    rw [List.find?_cons, h']; rfl
  | x :: l, k + 1, hk, hn, h => by
    have h0 : p x = false := hn 0 (by omega)
    rw [List.find?_cons, h0]
    exact find_at (l := l) (k := k) (by simpa using hk) (fun i hi => by have := hn (i + 1) (by omega); simpa using this) (by simpa using h)
theorem find_none {α : Type} {p : α → Bool} {d : α} {l : List α} (hn : ∀ i, i < l.length → p (l.getD i d) = false) : l.find? p = none := by
  rw [List.find?_eq_none]
  intro x hx
  obtain ⟨i, hi, rfl⟩ := List.getElem_of_mem hx
  have := hn i hi
  rw [getD_elem0 _ _ _ hi] at this
  rw [this]; simp
def lres (o : Option (List Int)) : List Int × Bool := match o with
  | some l => (l, true)
  | none => ([], false)
set_option maxRecDepth 100000 in
set_option maxHeartbeats 1000000 in
theorem Rleast_any
  (n : Nat) (a : Option Addr) (cap : Nat) (fs : List Fld) (m : Nat) (ae : Option Addr) (ce : Nat) (es : List Edt) (ok : Hid (PlOk fs es n m))
    (w : World) (φ : Phi) (hφ : Fz φ w) (s : SlV φ a cap fs) (se : SlV φ ae ce es) (a1 : Option Addr) (c1 : Nat) (rec : List Int) (sr : SlV φ a1 c1 rec) (hrl : Hid (rec.length = n)) {l : List Int} {b : Bool} (hq : Hid (lres (if (leastS fs es n m rec).1.2.2 = true then some (leastS fs es n m rec).1.1 else none) = (l, b))) :
    Calls Tryd.prog 47 #[.agg #[.slice a n cap, .slice ae m ce], .slice a1 n c1] w (SlBPost l b φ w) := by
  have hn12 := ok.out.pos
  have hS0 := Lib.hid (BxSt.new hφ #[.slice a n cap, .slice ae m ce] 25)
  have hi0 := Lib.hid ((Inv.start hφ).alloc (.cells #[.slice a n cap, .slice ae m ce] 25))
  go_enter Tryd.func47, Tryd.ntmps47
  go_wp2_with fail
  refine (sets_any n a cap fs m ae ce es ok _ φ hS0.out.fz s se).mono ?_
  rintro e w1 ⟨rs, φ1, a5, c5, rfl, hi1, s5, p5, o5⟩
  have hI1 := Lib.hid (hi0.out.call hi1)
  have hK1 := Lib.hid (hS0.out.k.callB hi1.bel)
  have hfd : Hid (lres (rs.find? (fun l => (firstS fs es n m rec l).2)) = (l, b)) := Lib.hid (by rw [least_ref ok.out hrl.out p5 o5]; exact hq.out)
  have hset : Hid (∀ l ∈ rs, l.Pairwise (· < ·) ∧ SetG n l) := Lib.hid (fun l hl => by
    have := p5.mem_iff.1 hl
    unfold setsK at this
    obtain ⟨v, _, rfl⟩ := List.mem_map.1 this
    exact ⟨setK_sorted v n, setK_G v n⟩)
  clear hi1 hi0 hS0 p5 o5
  obtain ⟨R, hR⟩ : ∃ k, Hid (rs.length = k) := ⟨_, Lib.hid rfl⟩
  rw [hR.out]
  have hRl := s5.capn
  have hRm := s5.capm
  rw [hR.out] at hRl
  unfold maxLen at hRm
  generalize hbx : w.heap.size = bx at *
  replace hbx := Lib.hid hbx
  go_wp2
  go_loopw [13] (fun i wr => ∃ k : Nat, k ≤ R ∧ i = .int .i64 k ∧ Hid (∀ i, i < k → (firstS fs es n m rec (rs.getD i [])).2 = false) ∧ Hid (Inv bx w φ φ1 wr ∧ Blk wr bx #[.slice a n cap, .slice ae m ce] 25)) (fun i _ => R - (intOf i).toNat)
  case atStart => exact ⟨0, Nat.zero_le _, rfl, Lib.hid (fun i hi => by omega), Lib.hid ⟨hI1.out, hK1.out⟩⟩
  case round =>
    clear hI1 hK1
    obtain ⟨k, hk, rfl, hok, hS⟩ := hrel
    by_cases hlt : k < R
    · obtain ⟨b6, o6, rfl, f6⟩ := s5.lists hR hlt
      obtain ⟨a6, c6, s6, f6⟩ := f6 k hlt
      have d6 := (f6 wr hS.out.1.fz).2
      obtain ⟨g1, g2⟩ := hset.out (rs.getD k []) (by rw [getD_elem0 _ _ _ (by rw [hR.out]; exact hlt)]; exact List.getElem_mem _)
      have HY := Lib.hid (fun h : (firstS fs es n m rec (rs.getD k [])).2 = true => find_at (p := fun l => (firstS fs es n m rec l).2) (by rw [hR.out]; exact hlt) hok.out h)
      have HN : Hid ((firstS fs es n m rec (rs.getD k [])).2 = false → ∀ i, i < k + 1 → (firstS fs es n m rec (rs.getD i [])).2 = false) := Lib.hid (fun h i hi => by
        by_cases e : i = k
        · subst e; exact h
        · exact hok.out i (by omega))
      clear f6
      generalize rs.getD k [] = z at *
      obtain ⟨nz, hnz⟩ : ∃ j, Hid (z.length = j) := ⟨_, Lib.hid rfl⟩
      rw [hnz.out] at d6
      have hzl := g2.len
      rw [hnz.out] at hzl
      have hzm : Hid (∀ k ∈ z, 0 ≤ k ∧ k < (n : Int)) := Lib.hid g2.mem
      have G1 := Lib.hid g1
      obtain ⟨q1, q2, hq12⟩ : ∃ q1 q2, Hid (firstS fs es n m rec z = (q1, q2)) := ⟨_, _, Lib.hid rfl⟩
      have p0 : wr.cell? ⟨bx, 0, none⟩ = some (.slice a n cap) := hS.out.2.cell 0
      have p1 : wr.cell? ⟨bx, 1, none⟩ = some (.slice ae m ce) := hS.out.2.cell 1
      clear g1 g2
      go_wp2_with fail
      refine (Rfirst_any n a cap fs m ae ce es wr φ1 hS.out.1.fz (s.mono hS.out.1.le) (se.mono hS.out.1.le) ok.out a1 c1 rec (sr.mono hS.out.1.le) hrl nz a6 c6 z s6 hnz (by omega) hzm G1.out hq12).mono ?_
      rintro e w5 ⟨φ5, a7, c7, rfl, hi5, s7⟩
      have hS5 := Lib.hid (And.intro (hS.out.1.callB hi5.bel) (hS.out.2.callB hi5.bel))
      clear hi5 s7 p0 p1 d6
      cases q2 with
      | true =>
        have H2 := Lib.hid (HY.out (by rw [hq12.out]))
        go_wp2
        go_ret2
        have h := hfd.out
        rw [H2.out] at h
        obtain ⟨rfl, rfl⟩ := Prod.mk.inj h
        exact ⟨φ1, a6, c6, congrArg (fun k => Ending.returned (.tuple #[.slice a6 k c6, .bool true])) hnz.out.symm, by rw [hbx.out]; exact hS5.out.1, s6⟩
      | false =>
        have H2 := Lib.hid (HN.out (by rw [hq12.out]))
        go_wp2
        go_roundw
        case rel => exact ⟨k + 1, by omega, by go_num, H2, hS5⟩
        case measure => simp [intOf]; omega
    · obtain rfl : k = R := by omega
      have h := hfd.out
      rw [find_none (d := []) (by rw [hR.out]; exact hok.out)] at h
      have H := Lib.hid h
      clear h
      go_wp2
      go_ret2
      obtain ⟨rfl, rfl⟩ := Prod.mk.inj H.out
      exact ⟨φ1, none, 0, rfl, by rw [hbx.out]; exact hS.out.1, SlV.empty _⟩
set_option maxHeartbeats 1000000 in
theorem RLeast_any
  (n : Nat) (a : Option Addr) (cap : Nat) (fs : List Fld) (m : Nat) (ae : Option Addr) (ce : Nat) (es : List Edt) (w : World) (φ : Phi) (hφ : Fz φ w) (ht : TabP φ) (s : SlV φ a cap fs) (hn : Hid (fs.length = n)) (hm : n ≤ 9223372036854775807) (hg : Hid (∀ x ∈ fs, FldG x)) (se : SlV φ ae ce es) (hne : Hid (es.length = m)) (hme : m ≤ 9223372036854775807) (hge : Hid (∀ x ∈ es, EdtG x))
      (nr : Nat) (a2 : Option Addr) (c2 : Nat) (rec : List Int) (sr : SlV φ a2 c2 rec) (hrl : Hid (rec.length = nr)) (hmr : nr ≤ 9223372036854775807)
    {F : Int} (hF : Hid (withF fs es rec = F)) {l : List Int} {G : Int} (hb : Hid (leastR fs es rec F = (l, G))) :
    Calls Tryd.prog 21 #[.agg #[.slice a n cap, .slice ae m ce], .slice a2 nr c2] w (SlFPost l G φ w) := by
  have hS0 := Lib.hid (BxSt.new hφ #[.slice a n cap, .slice ae m ce] 25)
  have hi0 := Lib.hid ((Inv.start hφ).alloc (.cells #[.slice a n cap, .slice ae m ce] 25))
  obtain ⟨lf, hlf⟩ : ∃ l, Hid (failsR fs es rec F = l) := ⟨_, Lib.hid rfl⟩
  have hTT := Lib.hid ht
  clear ht
  go_enter Tryd.func21, Tryd.ntmps21
  go_wp2_with fail
  refine (RFails_any n a cap fs m ae ce es _ φ hS0.out.fz hTT.out s hn hm hg se hne hme hge nr a2 c2 rec sr hrl hmr hF hlf).mono ?_
  rintro e w1 ⟨φ1, a5, c5, rfl, hi1, s5⟩
  have hS1 := Lib.hid (hS0.out.callB hi1.bel)
  have hI1 := Lib.hid (hi0.out.callB hi1.bel)
  clear hi1 hS0 hi0 s5
  by_cases hf : F = 0
  case neg =>
    have hff : (F != 0) = true := by simp [hf]
    have hb' : Hid (([], F) = (l, G)) := Lib.hid (by rw [← hb.out, leastR, if_neg hf])
    clear hf
    go_wp2
    go_ret2
    obtain ⟨rfl, rfl⟩ := Prod.mk.inj hb'.out
    exact ⟨φ, none, 0, rfl, hI1.out, SlV.empty _⟩
  subst hf
  obtain ⟨hp, hl⟩ := withF_zero hF.out
  have OKH := Lib.hid (planF_zero hp)
  obtain ⟨o, ho⟩ : ∃ o, Hid ((leastS fs es fs.length es.length rec).1.2.2 = o) := ⟨_, Lib.hid rfl⟩
  have hb' : Hid ((if o = true then ((leastS fs es fs.length es.length rec).1.1, 0) else ([], 9)) = (l, G)) := Lib.hid (by rw [← hb.out, leastR, if_pos rfl, ho.out])
  rw [hn.out, hne.out] at OKH hb' ho
  obtain rfl : nr = n := by rw [← hrl.out, hl, hn.out]
  have hbx := Lib.hid (rfl : w.heap.size = w.heap.size)
  clear hp hl
  have p0 : w1.cell? ⟨w.heap.size, 0, none⟩ = some (.slice a nr cap) := hS1.out.k.cell 0
  have p1 : w1.cell? ⟨w.heap.size, 1, none⟩ = some (.slice ae m ce) := hS1.out.k.cell 1
  cases o with
  | false =>
    have hq : Hid (lres (if (leastS fs es nr m rec).1.2.2 = true then some (leastS fs es nr m rec).1.1 else none) = ([], false)) := Lib.hid (by rw [ho.out]; rfl)
    go_wp2_with fail
    refine (Rleast_any nr a cap fs m ae ce es OKH w1 φ hS1.out.fz s se a2 c2 rec sr hrl hq).mono ?_
    rintro e w2 ⟨φ2, a6, c6, rfl, hi2, s6⟩
    have hI2 := Lib.hid (hI1.out.callB hi2.bel)
    clear hi2 s6
    go_wp2
    go_ret2
    have h := hb'.out
    rw [if_neg (by simp)] at h
    obtain ⟨rfl, rfl⟩ := Prod.mk.inj h
    exact ⟨φ, none, 0, rfl, hI2.out, SlV.empty _⟩
  | true =>
    have h := hb'.out
    rw [if_pos rfl] at h
    obtain ⟨h1, rfl⟩ := Prod.mk.inj h
    have hq : Hid (lres (if (leastS fs es nr m rec).1.2.2 = true then some (leastS fs es nr m rec).1.1 else none) = (l, true)) := Lib.hid (by rw [ho.out, if_pos rfl, h1]; rfl)
    clear h h1 hb' hb
    go_wp2_with fail
    refine (Rleast_any nr a cap fs m ae ce es OKH w1 φ hS1.out.fz s se a2 c2 rec sr hrl hq).mono ?_
    rintro e w2 ⟨φ2, a6, c6, rfl, hi2, s6⟩
    have hI2 := Lib.hid (hI1.out.call hi2)
    clear hi2
    go_wp2
    go_ret2
    exact ⟨φ2, a6, c6, rfl, hI2.out, s6⟩
set_option maxHeartbeats 1000000 in
theorem leastm_core
  (n : Nat) (a : Option Addr) (cap : Nat) (fs : List Fld) (m : Nat) (ae : Option Addr) (ce : Nat) (es : List Edt) (w : World) (φ : Phi) (hφ : Fz φ w) (ht : TabP φ) (s : SlV φ a cap fs) (hn : Hid (fs.length = n)) (hm : n ≤ 9223372036854775807) (hg : Hid (∀ x ∈ fs, FldG x)) (se : SlV φ ae ce es) (hne : Hid (es.length = m)) (hme : m ≤ 9223372036854775807) (hge : Hid (∀ x ∈ es, EdtG x))
      (nr : Nat) (a2 : Option Addr) (c2 : Nat) (rec : List Int) (sr : SlV φ a2 c2 rec) (hrl : Hid (rec.length = nr)) (hmr : nr ≤ 9223372036854775807)
    :
    Calls Tryd.prog 5 #[.agg #[.slice a n cap, .slice ae m ce], .slice a2 nr c2] w fun e w' => e = .returned (.bool true) ∧ Below w.heap.size w w' := by
  obtain ⟨F, hF⟩ : ∃ F, Hid (withF fs es rec = F) := ⟨_, Lib.hid rfl⟩
  obtain ⟨l, G, hl⟩ : ∃ l G, Hid (leastR fs es rec F = (l, G)) := ⟨_, _, Lib.hid rfl⟩
  have hTT := Lib.hid ht
  clear ht
  have H0 := Lib.hid ((Inv.start hφ).alloc (.cells #[.slice a n cap, .slice ae m ce] 25))
  have B0 := Lib.hid (Blk.new w #[.slice a n cap, .slice ae m ce] 25)
  have hGG : (G == G) = true := by simp
  go_enter Tryd.func5, Tryd.ntmps5
  go_wp2_with fail
  refine (Least_any n a cap fs m ae ce es _ φ H0.out.fz s hn hm hg se hne hme hge nr a2 c2 rec sr hrl hmr hF hl).mono ?_
  rintro e w1 ⟨φ1, a4, c4, rfl, hi1, s4⟩
  generalize hbp : w.heap.size = bp at *
  replace hbp := Lib.hid hbp
  have H1 := Lib.hid (H0.out.call hi1)
  have B1 := Lib.hid (B0.out.callB hi1.bel)
  clear hi1 H0 B0
  have p0 : w1.cell? ⟨bp, 0, none⟩ = some (.slice a n cap) := B1.out.cell 0
  have p1 : w1.cell? ⟨bp, 1, none⟩ = some (.slice ae m ce) := B1.out.cell 1
  go_wp2_with fail
  refine (RLeast_any n a cap fs m ae ce es w1 φ1 H1.out.fz (hTT.out.mono H1.out.le) (s.mono H1.out.le) hn hm hg (se.mono H1.out.le) hne hme hge nr a2 c2 rec (sr.mono H1.out.le) hrl hmr hF hl).mono ?_
  rintro e w2 ⟨φ2, a5, c5, rfl, hi2, s5⟩
  have H2 := Lib.hid (H1.out.call hi2)
  have s4' := s4.mono hi2.le
  clear hi2 H1 B1 s4 p0 p1
  go_wp2_with fail
  refine (Equal_t _ a4 c4 l a5 c5 w2 φ2 φ2 H2.out.fz H2.out.fz s4' (Lib.hid rfl) s4'.len s5).mono ?_
  rintro e w3 ⟨rfl, hb3⟩
  have H3 := Lib.hid (H2.out.callB hb3)
  clear hb3 H2
  go_wp2
  go_ret
  exact ⟨rfl, by rw [hbp.out]; exact H3.out.bel⟩
theorem editLeastMatchesSpec_walk (w : World) (φ : Phi) (hφ : Fz φ w) (ht : TabP φ) (cs : Array Value) (x : Plan) (hx : Rep.rep φ x cs.toList) (g : PlanG x)
    (ad : Option Addr) (cp : Nat) (r : List Int) (sr : SlV φ ad cp r) (gr : r.length * 8 ≤ reachBytes ∧ ∀ x ∈ r, IsI64 x) :
    Calls Tryd.prog 5 #[.agg cs, .slice ad r.length cp] w fun e w' => e = .returned (.bool true) ∧ Below w.heap.size w w' := by
  obtain ⟨a, cap, ae, ce, A⟩ := plan_open hx g
  rw [A.e]
  have h1 := ints_len gr.1
  exact leastm_core _ a cap x.1 _ ae ce x.2 w φ hφ ht A.s (Lib.hid rfl) A.hm (Lib.hid A.hg) A.se (Lib.hid rfl) A.hme (Lib.hid A.hge) _ ad cp r sr (Lib.hid rfl) (by omega)
end Go.Proofs.YtambgcijceecpaaDoor
