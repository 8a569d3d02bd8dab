/- The walks of the reference's first, First, and of slices.Equal at []int. Conditions: the library's table of blanks reads as it was laid. -/
import Derived.Test.YtambgcijceecpaaDoorQ6
namespace Go.Proofs.YtambgcijceecpaaDoor
open Go.RowKit
set_option linter.unusedVariables false
def resO : Option (List Int) → List Int × Bool
  | some x => (x, true)
  | none => ([], false)
theorem pairwise_of_next {l : List Int} (h : ∀ i, 0 < i → (hi : i < l.length) → l[i - 1]'(by omega) < l[i]) : l.Pairwise (· < ·) := by
  rw [List.pairwise_iff_getElem]
  intro i j hi hj hij
  have : ∀ d, (hd : i + 1 + d < l.length) → l[i] < l[i + 1 + d] := by
    intro d
    induction d with
    | zero => intro hd; have := h (i + 1) (by omega) hd; simpa using this
    | succ d ih =>
      intro hd
      have h1 := ih (by omega)
      have h2 := h (i + 1 + (d + 1)) (by omega) hd
      have e : i + 1 + (d + 1) - 1 = i + 1 + d := by omega
      simp only [e] at h2
      omega
  have := this (j - (i + 1)) (by omega)
  have e : i + 1 + (j - (i + 1)) = j := by omega
  simp only [e] at this
  exact this
theorem freeF_sorted {n : Nat} {free : List Int} (h : freeF n free = 0) : free.Pairwise (· < ·) := by
  refine pairwise_of_next (fun i h0 hi => ?_)
  have := scan_all _ h i hi
  unfold freeBad at this
  rw [getD_elem0 _ _ _ hi, getD_elem0 _ _ _ (by omega : i - 1 < free.length)] at this
  split at this
  · cases this
  · split at this
    · cases this
    · omega
set_option maxHeartbeats 1000000 in
theorem Rfirst_any
  (n : Nat) (a : Option Addr) (cap : Nat) (fs : List Fld) (m : Nat) (ae : Option Addr) (ce : Nat) (es : List Edt) (w : World) (φ : Phi) (hφ : Fz φ w) (s : SlV φ a cap fs) (se : SlV φ ae ce es)
    (ok : PlOk fs es n m) (a1 : Option Addr) (c1 : Nat) (rec : List Int) (sr : SlV φ a1 c1 rec) (hrl : Hid (rec.length = n)) (nf : Nat) (a2 : Option Addr) (c2 : Nat) (free : List Int) (sf : SlV φ a2 c2 free) (hfl : Hid (free.length = nf)) (hmf : nf ≤ 9223372036854775806) (hfr : Hid (∀ k ∈ free, 0 ≤ k ∧ k < (n : Int))) (hso : free.Pairwise (· < ·)) {q : List Int × Bool} (hq : Hid (firstS fs es n m rec free = q)) :
    Calls Tryd.prog 39 #[.agg #[.slice a n cap, .slice ae m ce], .slice a1 n c1, .slice a2 nf c2] w (FirstPost q φ w) := by
  have hn12 := ok.pos
  have hok := Lib.hid ok
  obtain ⟨o, ho⟩ : ∃ o, Hid ((compL fs (free.drop 0) rec).find? (fun x => passB fs es x n m) = o) := ⟨_, Lib.hid rfl⟩
  have hq2 : Hid (resO o = q) := Lib.hid (by rw [← hq.out, firstS_L hfr.out hso, ← ho.out, List.drop_zero]; cases (compL fs free rec).find? (fun x => passB fs es x n m) <;> rfl)
  have hS0 := Lib.hid (BxSt.new hφ #[.slice a n cap, .slice ae m ce] 25)
  have hi0 := Lib.hid ((Inv.start hφ).alloc (.cells #[.slice a n cap, .slice ae m ce] 25))
  go_enter Tryd.func39, Tryd.ntmps39
  go_wp2_with fail
  refine (Clone_n hS0.out.fz sr hrl (by omega)).mono ?_
  rintro e w5 ⟨a5, c5, rfl, hi5, ho5⟩
  have hS5 := Lib.hid (hS0.out.callB hi5.bel)
  have hI5 := Lib.hid (hi0.out.call hi5)
  obtain ⟨g, rfl, hgb, hgl, hgn, _⟩ := ho5.elem (k := 0) (by rw [hrl.out]; omega)
  have hO5 := Lib.hid (ho5.base hi0.out.size)
  have p0 : w5.cell? ⟨w.heap.size, 0, none⟩ = some (.slice a n cap) := hS5.out.k.cell 0
  have p1 : w5.cell? ⟨w.heap.size, 1, none⟩ = some (.slice ae m ce) := hS5.out.k.cell 1
  clear hi5 ho5 hS0 hi0
  go_wp2_with fail
  refine (fill_any n a cap fs m ae ce es s se hok nf a2 c2 free sf hfl hmf hfr nf 0 rfl (Nat.zero_le _) 0 rfl rec w5 hrl hI5.out hO5.out ho).mono ?_
  rintro e w6 ⟨x', rfl, hI6, hO6, hx6, hy6, hA6, hK6⟩
  have R1 := Lib.hid hI6
  have R2 := Lib.hid hO6
  have R3 := Lib.hid hy6
  clear hI6 hO6 hy6 hA6 hK6 p0 p1
  cases o with
  | none =>
    go_wp2
    go_ret2
    have h := hq2.out
    subst h
    exact ⟨φ, none, 0, rfl, R1.out, SlV.empty _⟩
  | some z =>
    obtain ⟨φ3, l3, i3, s3, _⟩ := R2.out.release R1.out
    have I3 := Lib.hid i3
    clear l3 i3
    go_wp2
    go_ret2
    have h := hq2.out
    subst h
    have hz := R3.out z rfl
    subst hz
    exact ⟨φ3, some ⟨g, 0, none⟩, c5, congrArg (fun k => Ending.returned (.tuple #[.slice (some ⟨g, 0, none⟩) k c5, .bool true])) hx6.out.symm, I3.out, s3⟩
set_option maxHeartbeats 1000000 in
theorem RFirst_any
  (n : Nat) (a : Option Addr) (cap : Nat) (fs : List Fld) (m : Nat) (ae : Option Addr) (ce : Nat) (es : List Edt) (w : World) (φ : Phi) (hφ : Fz φ w) (ht : TabP φ) (s : SlV φ a cap fs) (hn : Hid (fs.length = n)) (hm : n ≤ 9223372036854775807) (hg : Hid (∀ x ∈ fs, FldG x)) (se : SlV φ ae ce es) (hne : Hid (es.length = m)) (hme : m ≤ 9223372036854775807) (hge : Hid (∀ x ∈ es, EdtG x))
      (nr : Nat) (a2 : Option Addr) (c2 : Nat) (rec : List Int) (sr : SlV φ a2 c2 rec) (hrl : Hid (rec.length = nr)) (hmr : nr ≤ 9223372036854775807)
    (nf : Nat) (a3 : Option Addr) (c3 : Nat) (free : List Int) (sf : SlV φ a3 c3 free) (hfl : Hid (free.length = nf)) (hmf : nf ≤ 9223372036854775806)
    {F : Int} (hF : Hid (withF fs es rec = F)) {G : Int} (hG : Hid (firstF fs rec free F = G)) {l : List Int} {b : Bool} (hb : Hid (firstR fs es rec free G = (l, b))) :
    Calls Tryd.prog 15 #[.agg #[.slice a n cap, .slice ae m ce], .slice a2 nr c2, .slice a3 nf c3] w (SlBFPost l b G φ w) := by
  have hS0 := Lib.hid (BxSt.new hφ #[.slice a n cap, .slice ae m ce] 25)
  have hi0 := Lib.hid ((Inv.start hφ).alloc (.cells #[.slice a n cap, .slice ae m ce] 25))
  obtain ⟨lf, hlf⟩ : ∃ l, Hid (failsR fs es rec F = l) := ⟨_, Lib.hid rfl⟩
  have hTT := Lib.hid ht
  clear ht
  go_enter Tryd.func15, Tryd.ntmps15
  go_wp2_with fail
  refine (RFails_any n a cap fs m ae ce es _ φ hS0.out.fz hTT.out s hn hm hg se hne hme hge nr a2 c2 rec sr hrl hmr hF hlf).mono ?_
  rintro e w1 ⟨φ1, a5, c5, rfl, hi1, s5⟩
  have hS1 := Lib.hid (hS0.out.callB hi1.bel)
  have hI1 := Lib.hid (hi0.out.callB hi1.bel)
  clear hi1 hS0 hi0 s5
  by_cases hf : F = 0
  case neg =>
    have hff : (F != 0) = true := by simp [hf]
    have hg' : Hid (F = G) := Lib.hid (by rw [← hG.out, firstF, if_neg hf])
    have hb' : Hid (([], false) = (l, b)) := Lib.hid (by rw [← hb.out, firstR, ← hg'.out, if_neg hf])
    clear hf
    go_wp2
    go_ret3
    obtain ⟨rfl, rfl⟩ := Prod.mk.inj hb'.out
    obtain rfl := hg'.out
    exact ⟨φ, none, 0, rfl, hI1.out, SlV.empty _⟩
  subst hf
  obtain ⟨hp, hl⟩ := withF_zero hF.out
  have OKH := Lib.hid (planF_zero hp)
  rw [hn.out, hne.out] at OKH
  obtain rfl : nr = n := by rw [← hrl.out, hl, hn.out]
  have hg' : Hid (scan (freeBad nr free) nf = G) := Lib.hid (by rw [← hG.out, firstF, if_pos rfl, freeF, hfl.out, hn.out])
  have hn12 := OKH.out.pos
  clear hp hl
  generalize hbx : w.heap.size = bx at *
  replace hbx := Lib.hid hbx
  have p0 : w1.cell? ⟨bx, 0, none⟩ = some (.slice a nr cap) := hS1.out.k.cell 0
  have p1 : w1.cell? ⟨bx, 1, none⟩ = some (.slice ae m ce) := hS1.out.k.cell 1
  go_wp2
  go_loop [26] (fun i => ∃ k : Nat, k ≤ nf ∧ i = .int .i64 k ∧ Hid (∀ i, i < k → freeBad nr free i = 0)) (fun i => nf - (intOf i).toNat)
  case atStart => exact ⟨0, Nat.zero_le _, rfl, none_yet _⟩
  case round =>
    obtain ⟨k, hk, rfl, hok⟩ := hrel
    by_cases hlt : k < nf
    · obtain ⟨b1, o1, rfl, f1⟩ := sf.intsD hfl hlt
      have d1 := (f1 k hlt w1 hS1.out.fz).2
      have HP := Lib.hid (fun h : 0 < k => (f1 (k - 1) (by omega) w1 hS1.out.fz).2)
      have hbad : Hid (freeBad nr free k = _) := Lib.hid (freeBad.eq_1 nr free k)
      clear f1
      generalize free.getD k 0 = x at *
      generalize free.getD (k - 1) 0 = p at *
      obtain ⟨o, ho⟩ : ∃ o, Hid (outB x 0 ((nr : Int) - 1) = o) := ⟨_, Lib.hid rfl⟩
      have STOP : Hid (∀ c, freeBad nr free k = c → c ≠ 0 → G = c ∧ l = [] ∧ b = false) := Lib.hid (fun c hc hc0 => by
        have h1 : G = c := by rw [← hg'.out, scan_stop hok.out hlt (by rw [hc]; exact hc0), hc]
        have h2 := hb.out
        rw [firstR, if_neg (by rw [h1]; exact hc0)] at h2
        cases h2
        exact ⟨h1, rfl, rfl⟩)
      cases o
      case true =>
        go_wp2_with (go_at_call 38; refine (within_b _ _ _ _ ho.out).mono ?_; rintro e w' ⟨rfl, rfl⟩)
        go_ret3
        obtain ⟨rfl, rfl, rfl⟩ := STOP.out 1 (by rw [hbad.out, if_pos ho.out]) (by decide)
        exact ⟨φ, none, 0, rfl, by rw [hbx.out]; exact hI1.out, SlV.empty _⟩
      case false =>
        by_cases h3 : 0 < k
        · have hpp := HP.out h3
          have hix : 0 ≤ (k : Int) - 1 := by omega
          have hix2 : (k : Int) - 1 < nf := by omega
          have hto : ((k : Int) - 1).toNat = k - 1 := by omega
          have h3i : decide ((0 : Int) < k) = true := decide_eq_true (by omega)
          by_cases hle : x ≤ p
          · go_wp2_with (go_at_call 38; refine (within_b _ _ _ _ ho.out).mono ?_; rintro e w' ⟨rfl, rfl⟩)
            go_ret3
            obtain ⟨rfl, rfl, rfl⟩ := STOP.out 7 (by rw [hbad.out, if_neg (by rw [ho.out]; simp), if_pos ⟨h3, hle⟩]) (by decide)
            exact ⟨φ, none, 0, rfl, by rw [hbx.out]; exact hI1.out, SlV.empty _⟩
          · go_wp2_with (go_at_call 38; refine (within_b _ _ _ _ ho.out).mono ?_; rintro e w' ⟨rfl, rfl⟩)
            go_round
            case rel => exact ⟨k + 1, by omega, by go_num, next_ok hok (by rw [hbad.out, if_neg (by rw [ho.out]; simp), if_neg (by omega)])⟩
            case measure => simp [intOf]; omega
        · have h3i : decide ((0 : Int) < k) = false := decide_eq_false (by omega)
          go_wp2_with (go_at_call 38; refine (within_b _ _ _ _ ho.out).mono ?_; rintro e w' ⟨rfl, rfl⟩)
          go_round
          case rel => exact ⟨k + 1, by omega, by go_num, next_ok hok (by rw [hbad.out, if_neg (by rw [ho.out]; simp), if_neg (by omega)])⟩
          case measure => simp [intOf]; omega
    · obtain rfl : k = nf := by omega
      have hG0 : Hid (G = 0) := Lib.hid (by rw [← hg'.out, scan_zero _ _ hok.out])
      have hff : freeF nr free = 0 := by rw [freeF, hfl.out]; exact scan_zero _ _ hok.out
      have hfr : Hid (∀ j ∈ free, 0 ≤ j ∧ j < (nr : Int)) := Lib.hid (freeF_zero hff)
      have hso := Lib.hid (freeF_sorted hff)
      have hq : Hid (firstS fs es nr m rec free = (l, b)) := Lib.hid (by rw [← hb.out, firstR, hG0.out, if_pos rfl, hn.out, hne.out])
      clear hff
      go_wp2_with fail
      refine (Rfirst_any nr a cap fs m ae ce es w1 φ hS1.out.fz s se OKH.out a2 c2 rec sr hrl k a3 c3 free sf hfl hmf hfr hso.out hq).mono ?_
      rintro e w' ⟨φ2, a6, c6, rfl, hi5, hs5⟩
      have HI := Lib.hid (hI1.out.call hi5)
      clear hi5
      go_wp2
      go_ret3
      obtain rfl := hG0.out
      exact ⟨φ2, a6, c6, rfl, by rw [hbx.out]; exact HI.out, hs5⟩
/-- slices.Equal of two slices that read as one list. -/
theorem Equal_t (n1 : Nat) (a1 : Option Addr) (c1 : Nat) (xs : List Int) (a2 : Option Addr) (c2 : Nat) (w : World) (φ ψ : Phi) (hφ : Fz φ w) (hψ : Fz ψ w) (s1 : SlV φ a1 c1 xs) (hn1 : Hid (xs.length = n1)) (hm1 : n1 ≤ 9223372036854775807) (s2 : SlV ψ a2 c2 xs) :
    Calls Tryd.prog 11 #[.slice a1 n1 c1, .slice a2 n1 c2] w (fun e w' => e = .returned (.bool true) ∧ Below w.heap.size w w') := by
  have hb1 : ((n1 : Int) != n1) = false := by simp
  go_enter Tryd.func11, Tryd.ntmps11
  go_wp2
  clear hb1
  go_loopw [13] (fun i wr => ∃ k : Nat, k ≤ n1 ∧ i = .int .i64 k ∧ Hid (Below w.heap.size w wr)) (fun i _ => n1 - (intOf i).toNat)
  case atStart => exact ⟨0, Nat.zero_le _, rfl, Lib.hid (Below.refl _ _)⟩
  case round =>
    obtain ⟨k, hk, rfl, hB⟩ := hrel
    by_cases hlt : k < n1
    · obtain ⟨b1, o1, rfl, f1⟩ := s1.intsD hn1 hlt
      have d1 := (f1 k hlt wr (hφ.below hB.out)).2
      obtain ⟨b2, o2, rfl, f2⟩ := s2.intsD hn1 hlt
      have d2 := (f2 k hlt wr (hψ.below hB.out)).2
      clear f1 f2
      generalize xs.getD k 0 = x at *
      have hne : (x != x) = false := by simp
      go_wp2
      go_quiet (fail)
      go_wp2
      go_roundw
      case rel => exact ⟨k + 1, by omega, by go_num, Lib.hid (bdrewN hB.out _)⟩
      case measure => simp [intOf]; omega
    · obtain rfl : k = n1 := by omega
      go_wp2
      go_ret
      exact ⟨rfl, hB.out⟩
end Go.Proofs.YtambgcijceecpaaDoor
