/- The walks of codingsFault, coders and CheckCodings. Conditions: none beyond what the claim form gives. -/
import Derived.Test.YthnmglckhfajeaaK7
namespace Go.Proofs.Ythnmglckhfajeaa
open Go.RowKit
set_option linter.unusedVariables false

abbrev Cdg := Int × Int × Int
abbrev cdg0 : Cdg := (0, 0, 0)
theorem SlV.cdgD {φ : Phi} {a : Option Addr} {cap : Nat} {xs : List Cdg} (h : SlV φ a cap xs) {k n : Nat} (hn : Hid (xs.length = n)) (hk : k < n) :
    ∃ b off, a = some ⟨b, off, none⟩ ∧ ∀ k, k < n → ∀ w, Fz φ w → b < w.heap.size ∧ w.cell? ⟨b, off + k * 3, none⟩ = some (.int .i64 (xs.getD k cdg0).1) ∧ w.cell? ⟨b, off + k * 3 + 1, none⟩ = some (.int .i64 (xs.getD k cdg0).2.1) ∧ w.cell? ⟨b, off + k * 3 + 2, none⟩ = some (.int .i64 (xs.getD k cdg0).2.2) := by
  obtain ⟨b, off, ha, hc⟩ := h.cellsD cdg0 hn hk
  refine ⟨b, off, ha, fun k hk w hw => ?_⟩
  obtain ⟨cs, ⟨c, d, rfl, h1, c2, d2, rfl, h2, h3⟩, hj⟩ := hc k hk
  cases h1; cases h2; cases h3
  have j0 := hj 0 (by simp)
  have j1 := hj 1 (by simp)
  have j2 := hj 2 (by simp)
  simp [Rep.size] at j0 j1 j2
  exact ⟨hw.lt j0, hw.cell j0, hw.cell j1, hw.cell j2⟩

def cdgBad (l : List Nod) (cs : List Cdg) (k : Nat) : Int :=
  if (cs.getD k cdg0).1 < 1 then 1
  else if outB (cs.getD k cdg0).2.1 1 50 = true then 1
  else if (ix l (cs.getD k cdg0).2.2).isSome = false then 5
  else if k = 0 then 0
  else if (cs.getD k cdg0).1 < (cs.getD (k - 1) cdg0).1 then 7
  else if (cs.getD k cdg0).1 = (cs.getD (k - 1) cdg0).1 then
    if (cs.getD k cdg0).2.1 < (cs.getD (k - 1) cdg0).2.1 then 7 else if (cs.getD k cdg0).2.1 = (cs.getD (k - 1) cdg0).2.1 then 6 else 0
  else 0
def cdgF (l : List Nod) (cs : List Cdg) : Int := if 20000 < cs.length then 2 else scan (cdgBad l cs) cs.length
theorem cdgF_at {l : List Nod} {cs : List Cdg} {n k : Nat} (hn : Hid (cs.length = n)) (hl : n ≤ 20000) (hk : k < n) (h : Hid (∀ i, i < k → cdgBad l cs i = 0)) {c : Int} (hc : cdgBad l cs k = c) (hc0 : c ≠ 0) : cdgF l cs = c := by
  rw [cdgF, hn.out, if_neg (by omega), scan_stop h.out hk (by rw [hc]; exact hc0), hc]
theorem cdgF_ok {l : List Nod} {cs : List Cdg} {n : Nat} (hn : Hid (cs.length = n)) (hl : n ≤ 20000) (h : Hid (∀ i, i < n → cdgBad l cs i = 0)) : cdgF l cs = 0 := by
  rw [cdgF, hn.out, if_neg (by omega), scan_zero _ _ h.out]

theorem atF_isNone (l : List Nod) (k : Int) : (atF l k).isNone = (ix l k).isNone := by unfold atF; simp
set_option maxHeartbeats 1000000 in
theorem codingsFault_any {w : World} {bt : Nat} {a : Option Addr} {c n m1 m2 : Nat} {f2 : Int → Option Int} {l : List Nod} (ht : TreeW w bt a c n m1 m2 (atF l) f2) {ac : Option Addr} {cc nc : Nat} {cs : List Cdg} {φ : Phi} (hφ : Fz φ w) (sc : SlV φ ac cc cs) (hnc : Hid (cs.length = nc)) (hmc : nc ≤ 9223372036854775807) :
    Calls Try.prog 30 #[.pointer (some ⟨bt, 0, none⟩), .slice ac nc cc] w (IntB (cdgF l cs) w) := by
  have HT := Lib.hid ht
  clear ht
  by_cases hl : 20000 < nc
  · go_enter Try.func30, Try.ntmps30
    go_wp2
    go_ret
    exact ⟨ret_int (by rw [cdgF, hnc.out, if_pos hl]), Below.refl _ _⟩
  go_enter Try.func30, Try.ntmps30
  go_wp2
  go_loopw [13] (fun i wr => ∃ k : Nat, k ≤ nc ∧ i = .int .i64 k ∧ Hid (∀ i, i < k → cdgBad l cs i = 0) ∧ Below w.heap.size w wr) (fun i _ => nc - (intOf i).toNat)
  case atStart => exact ⟨0, Nat.zero_le _, rfl, none_yet _, Below.refl _ _⟩
  case round =>
    obtain ⟨k, hk, rfl, hok, hbel⟩ := hrel
    by_cases hlt : k < nc
    · obtain ⟨b, off, rfl, f⟩ := sc.cdgD hnc hlt
      have hf := hφ.below hbel
      obtain ⟨hb, c1, c2, c3⟩ := f k hlt wr hf
      have hp : 0 < k → wr.cell? ⟨b, off + (k - 1) * 3, none⟩ = some (.int .i64 (cs.getD (k - 1) cdg0).1) ∧ wr.cell? ⟨b, off + (k - 1) * 3 + 1, none⟩ = some (.int .i64 (cs.getD (k - 1) cdg0).2.1) ∧ wr.cell? ⟨b, off + (k - 1) * 3 + 2, none⟩ = some (.int .i64 (cs.getD (k - 1) cdg0).2.2) := fun h => (f (k - 1) (by omega) wr hf).2
      have hbad : Hid (cdgBad l cs k = _) := Lib.hid (cdgBad.eq_1 l cs k)
      have HP := Lib.hid hp
      clear f hp
      generalize (cs.getD k cdg0).1 = x1 at *
      generalize (cs.getD k cdg0).2.1 = x2 at *
      generalize (cs.getD k cdg0).2.2 = x3 at *
      generalize (cs.getD (k - 1) cdg0).1 = y1 at *
      generalize (cs.getD (k - 1) cdg0).2.1 = y2 at *
      generalize (cs.getD (k - 1) cdg0).2.2 = y3 at *
      have hbel2 : ∀ o, Below w.heap.size w (wr.alloc o) := fun o => hbel.alloc hbel.size o
      have HT2 := fun o => Lib.hid (HT.out.callB (hbel2 o))
      by_cases h0 : k = 0
      · have h0i : ((k : Int) == 0) = true := by simp [h0]
        have H0 := Lib.hid h0
        clear h0 HP
        go_wp2_with (first | (go_at_call 27; refine (outside_any _ _ _ _).mono ?_; rintro e w' ⟨rfl, rfl⟩) | (go_at_call 31; refine (has_any (HT2 _).out _).mono ?_; rintro e w' ⟨rfl, rfl⟩))
        all_goals have h0 := H0.out
        all_goals (try simp only [atF_isNone, Option.isNone_iff_eq_none] at *)
        all_goals first
          | (go_ret; exact ⟨ret_int (cdgF_at hnc (by omega) hlt hok (by rw [hbad.out]; ((repeat' split) <;> (first | rfl | omega | (simp_all; done) | (exfalso; simp_all; omega) | (simp_all; omega)))) (by decide)).symm, hbel2 _⟩)
          | (go_roundw
             case rel => exact ⟨k + 1, by omega, by go_num, next_ok hok (by rw [hbad.out]; ((repeat' split) <;> (first | rfl | omega | (simp_all; done) | (exfalso; simp_all; omega) | (simp_all; omega)))), hbel2 _⟩
             case measure => simp [intOf]; omega)
      · have h0i : ((k : Int) == 0) = false := by simp [h0]
        obtain ⟨p1, p2, p3⟩ := HP.out (by omega)
        have hix : 0 ≤ (k : Int) - 1 := by omega
        have hix2 : (k : Int) - 1 < nc := by omega
        have hto : ((k : Int) - 1).toNat = k - 1 := by omega
        have hbel3 : ∀ o o', Below w.heap.size w ((wr.alloc o).alloc o') := fun o o' => (hbel2 o).alloc (hbel2 o).size o'
        clear HP
        go_wp2_with (first | (go_at_call 27; refine (outside_any _ _ _ _).mono ?_; rintro e w' ⟨rfl, rfl⟩) | (go_at_call 31; refine (has_any (HT2 _).out _).mono ?_; rintro e w' ⟨rfl, rfl⟩))
        all_goals clear hto
        all_goals (try simp only [atF_isNone, Option.isNone_iff_eq_none] at *)
        all_goals first
          | (go_ret; exact ⟨ret_int (cdgF_at hnc (by omega) hlt hok (by rw [hbad.out]; ((repeat' split) <;> (first | rfl | omega | (simp_all; done) | (exfalso; simp_all; omega) | (simp_all; omega)))) (by decide)).symm, hbel2 _⟩)
          | (go_ret; exact ⟨ret_int (cdgF_at hnc (by omega) hlt hok (by rw [hbad.out]; ((repeat' split) <;> (first | rfl | omega | (simp_all; done) | (exfalso; simp_all; omega) | (simp_all; omega)))) (by decide)).symm, hbel3 _ _⟩)
          | (go_roundw
             case rel => exact ⟨k + 1, by omega, by go_num, next_ok hok (by rw [hbad.out]; ((repeat' split) <;> (first | rfl | omega | (simp_all; done) | (exfalso; simp_all; omega) | (simp_all; omega)))), hbel3 _ _⟩
             case measure => simp [intOf]; omega)
    · obtain rfl : k = nc := by omega
      go_wp2
      go_ret
      exact ⟨ret_int (cdgF_ok hnc (by omega) hok).symm, hbel⟩

/-- The error of a frame and codings. -/
noncomputable def frcF (l : List Nod) (cs : List Cdg) : Int := if treeF l ≠ 0 then treeF l else cdgF l cs
def CodersPost (l : List Nod) (cs : List Cdg) (n : Nat) (a : Option Addr) (c : Nat) (w : World) (e : Ending) (w' : World) : Prop :=
  Below w.heap.size w w' ∧ ((frcF l cs ≠ 0 ∧ ∃ p, e = .returned (.tuple #[.pointer p, .int .i64 (frcF l cs)])) ∨ (frcF l cs = 0 ∧ TrOk l n ∧ ∃ bt m1 m2, e = .returned (.tuple #[.pointer (some ⟨bt, 0, none⟩), .int .i64 0]) ∧ TreeW w' bt a c n m1 m2 (atF l) (lvF l)))
theorem coders_any {w : World} {a : Option Addr} {c n : Nat} {l : List Nod} {φ : Phi} (hφ : Fz φ w) (s : SlV φ a c l) (hn : Hid (l.length = n)) (hm : n ≤ 9223372036854775807) {ac : Option Addr} {cc nc : Nat} {cs : List Cdg} (sc : SlV φ ac cc cs) (hnc : Hid (cs.length = nc)) (hmc : nc ≤ 9223372036854775807) :
    Calls Try.prog 26 #[.slice a n c, .slice ac nc cc] w (CodersPost l cs n a c w) := by
  go_enter Try.func26, Try.ntmps26
  go_wp2_with fail
  refine (treeOf_any hφ s hn hm).mono ?_
  rintro e w1 ⟨hb, ⟨h0, rfl⟩ | ⟨h0, hok, bt, m1, m2, rfl, ht⟩⟩
  · obtain ⟨q, hq⟩ : ∃ q, Hid (treeF l = q) := ⟨_, Lib.hid rfl⟩
    rw [hq.out] at h0 ⊢
    have hg : ((q : Int) != 0) = true := by simp [h0]
    have H0 := Lib.hid h0
    have HB := Lib.hid hb
    clear h0 hb
    go_wp2
    go_ret2
    have e : frcF l cs = q := by rw [frcF, hq.out, if_pos H0.out]
    exact ⟨HB.out, .inl ⟨by rw [e]; exact H0.out, _, by rw [e]; rfl⟩⟩
  · have H0 := Lib.hid h0
    have HB := Lib.hid hb
    have HO := Lib.hid hok
    have HT := Lib.hid ht
    clear h0 hb hok ht
    go_wp2_with fail
    refine (codingsFault_any HT.out (hφ.below HB.out) sc hnc hmc).mono ?_
    rintro e w2 ⟨rfl, hb⟩
    have HT2 := Lib.hid (HT.out.callB hb)
    have HB2 := Lib.hid (HB.out.trans (hb.mono HB.out.size))
    have e : Hid (frcF l cs = cdgF l cs) := Lib.hid (by rw [frcF, if_neg (by simp [H0.out])])
    obtain ⟨q, hq⟩ : ∃ q, Hid (cdgF l cs = q) := ⟨_, Lib.hid rfl⟩
    rw [hq.out] at e ⊢
    clear hb
    go_wp2
    go_ret2
    refine ⟨HB2.out, ?_⟩
    rw [e.out]
    by_cases h : q = 0
    · subst h; exact .inr ⟨rfl, HO.out, bt, m1, m2, rfl, HT2.out⟩
    · exact .inl ⟨h, _, rfl⟩
theorem CheckCodings_any {w : World} {a : Option Addr} {c n : Nat} {l : List Nod} {φ : Phi} (hφ : Fz φ w) (s : SlV φ a c l) (hn : Hid (l.length = n)) (hm : n ≤ 9223372036854775807) {ac : Option Addr} {cc nc : Nat} {cs : List Cdg} (sc : SlV φ ac cc cs) (hnc : Hid (cs.length = nc)) (hmc : nc ≤ 9223372036854775807) :
    Calls Try.prog 14 #[.slice a n c, .slice ac nc cc] w (IntB (frcF l cs) w) := by
  go_enter Try.func14, Try.ntmps14
  go_wp2_with fail
  refine (coders_any hφ s hn hm sc hnc hmc).mono ?_
  rintro e w1 ⟨hb, ⟨h0, p, rfl⟩ | ⟨h0, hok, bt, m1, m2, rfl, ht⟩⟩
  · have HB := Lib.hid hb
    clear h0 hb
    go_wp2
    go_ret
    exact ⟨rfl, HB.out⟩
  · have HB := Lib.hid hb
    have H0 := Lib.hid h0
    clear h0 hb hok ht
    go_wp2
    go_ret
    exact ⟨ret_int H0.out.symm, HB.out⟩
end Go.Proofs.Ythnmglckhfajeaa
