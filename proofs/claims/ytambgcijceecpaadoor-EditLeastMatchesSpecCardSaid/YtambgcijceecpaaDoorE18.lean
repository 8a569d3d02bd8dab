/- The walks of Passes, Least, First. Conditions: none beyond what the claim form gives. -/
import Derived.Test.YtambgcijceecpaaDoorE17
namespace Go.Proofs.YtambgcijceecpaaDoor
open Go.RowKit
set_option linter.unusedVariables false
/-- The fault of a plan and a record. -/
noncomputable def withF (fs : List Fld) (es : List Edt) (rec : List Int) : Int := if planF fs es ≠ 0 then planF fs es else recF fs.length rec
def WithB (fs : List Fld) (es : List Edt) (rec : List Int) (F : Int) (φ : Phi) (w : World) (e : Ending) (w' : World) : Prop :=
  ∃ φ' p, e = .returned (.tuple #[p, .int .i64 F]) ∧ Inv w.heap.size w φ φ' w' ∧ (F = 0 → ∃ br a cap ae ce ab cb, p = .pointer (some ⟨br, 0, none⟩) ∧ RulV φ' br fs es fs.length es.length a cap ae ce ab cb)
theorem with_f
  (n : Nat) (a : Option Addr) (cap : Nat) (fs : List Fld) (m : Nat) (ae : Option Addr) (ce : Nat) (es : List Edt) (w : World) (φ : Phi) (hφ : Fz φ w) (s : SlV φ a cap fs) (hn : Hid (fs.length = n)) (hm : n ≤ 9223372036854775807) (hg : Hid (∀ x ∈ fs, FldG x)) (se : SlV φ ae ce es) (hne : Hid (es.length = m)) (hme : m ≤ 9223372036854775807) (hge : Hid (∀ x ∈ es, EdtG x))
      (nr : Nat) (a2 : Option Addr) (c2 : Nat) (rec : List Int) (sr : SlV φ a2 c2 rec) (hrl : Hid (rec.length = nr)) (hmr : nr ≤ 9223372036854775807)
    {F : Int} (hF : Hid (withF fs es rec = F)) :
    Calls Tryd.prog 30 #[.agg #[.slice a n cap, .slice ae m ce], .slice a2 nr c2] w (WithB fs es rec F φ w) := by
  refine (with_any n a cap fs m ae ce es w φ hφ s hn hm hg se hne hme hge nr a2 c2 rec sr hrl hmr).mono ?_
  rintro e w1 ⟨φ1, hi, ⟨hp, rfl⟩ | ⟨hp, br, rfl, hR⟩⟩
  · refine ⟨φ1, .pointer none, ?_, hi, fun h0 => ?_⟩
    · rw [← hF.out, withF, if_pos hp]
    · rw [← hF.out, withF, if_pos hp] at h0; exact absurd h0 hp
  · refine ⟨φ1, .pointer (some ⟨br, 0, none⟩), ?_, hi, fun h0 => ?_⟩
    · rw [← hF.out, withF, if_neg (fun h => h hp)]
    · obtain ⟨a', cap', ae', ce', ab', cb', hV⟩ := hR.open_ hp rfl rfl
      exact ⟨br, a', cap', ae', ce', ab', cb', rfl, hV⟩
theorem recF_len {n : Nat} {rec : List Int} (h : recF n rec = 0) : rec.length = n := by
  unfold recF at h
  split at h
  · cases h
  · next h1 => omega
theorem withF_zero {fs : List Fld} {es : List Edt} {rec : List Int} (h : withF fs es rec = 0) : planF fs es = 0 ∧ rec.length = fs.length := by
  unfold withF at h
  split at h
  · next h1 => exact absurd h h1
  · next h1 => exact ⟨by simpa using h1, recF_len h⟩
def PassPost (b : Bool) (F : Int) (w : World) (e : Ending) (w' : World) : Prop := e = .returned (.tuple #[.bool b, .int .i64 F]) ∧ Below w.heap.size w w'
def passR (fs : List Fld) (es : List Edt) (rec : List Int) (F : Int) : Bool := if F = 0 then passB fs es rec fs.length es.length else false
theorem Passes_any
  (n : Nat) (a : Option Addr) (cap : Nat) (fs : List Fld) (m : Nat) (ae : Option Addr) (ce : Nat) (es : List Edt) (w : World) (φ : Phi) (hφ : Fz φ w) (s : SlV φ a cap fs) (hn : Hid (fs.length = n)) (hm : n ≤ 9223372036854775807) (hg : Hid (∀ x ∈ fs, FldG x)) (se : SlV φ ae ce es) (hne : Hid (es.length = m)) (hme : m ≤ 9223372036854775807) (hge : Hid (∀ x ∈ es, EdtG x))
      (nr : Nat) (a2 : Option Addr) (c2 : Nat) (rec : List Int) (sr : SlV φ a2 c2 rec) (hrl : Hid (rec.length = nr)) (hmr : nr ≤ 9223372036854775807)
    {F : Int} (hF : Hid (withF fs es rec = F)) {b : Bool} (hb : Hid (passR fs es rec F = b)) :
    Calls Tryd.prog 12 #[.agg #[.slice a n cap, .slice ae m ce], .slice a2 nr c2] w (PassPost b F w) := by
  have hi0 := Lib.hid ((Inv.start hφ).alloc (.cells #[.slice a n cap, .slice ae m ce] 25))
  go_enter Tryd.func12, Tryd.ntmps12
  go_wp2_with fail
  refine (with_f n a cap fs m ae ce es _ φ (hφ.alloc _) s hn hm hg se hne hme hge nr a2 c2 rec sr hrl hmr hF).mono ?_
  rintro e w1 ⟨φ1, p, rfl, hi1, hR⟩
  have HI := Lib.hid (hi0.out.call hi1)
  have HR := Lib.hid hR
  clear hi1 hi0 hR
  by_cases hf : F = 0
  · obtain ⟨br, a', cap', ae', ce', ab', cb', rfl, hV⟩ := HR.out hf
    obtain ⟨hp, hl⟩ := withF_zero (hF.out.trans hf)
    have hb' : Hid (passB fs es rec fs.length es.length = b) := Lib.hid (by rw [← hb.out, passR, if_pos hf])
    have hl2 : Hid (rec.length = fs.length) := Lib.hid hl
    obtain rfl : fs.length = nr := by rw [← hrl.out, hl]
    have srr := sr.mono HI.out.le
    have HF := Lib.hid hf
    have hff : (F != 0) = false := by simp [hf]
    clear hf hp hl HR
    go_wp2_with (go_at_call 34; refine (passes_any hV w1 HI.out.fz a2 c2 rec srr hl2 hb').mono ?_; rintro e w' ⟨rfl, hb5⟩)
    go_ret2
    obtain rfl := HF.out
    exact ⟨rfl, HI.out.bel.trans (hb5.mono HI.out.size)⟩
  · have hff : (F != 0) = true := by simp [hf]
    have HF := Lib.hid hf
    have hb' : Hid (false = b) := Lib.hid (by rw [← hb.out, passR, if_neg hf])
    clear hf
    go_wp2
    go_ret2
    obtain rfl := hb'.out
    exact ⟨rfl, HI.out.bel⟩
def SlFPost (l : List Int) (F : Int) (φ : Phi) (w : World) (e : Ending) (w' : World) : Prop :=
  ∃ φ' a cap, e = .returned (.tuple #[.slice a l.length cap, .int .i64 F]) ∧ Inv w.heap.size w φ φ' w' ∧ SlV φ' a cap l
def leastR (fs : List Fld) (es : List Edt) (rec : List Int) (F : Int) : List Int × Int :=
  if F = 0 then (if (leastS fs es fs.length es.length rec).1.2.2 = true then ((leastS fs es fs.length es.length rec).1.1, 0) else ([], 9)) else ([], F)
theorem Least_any
  (n : Nat) (a : Option Addr) (cap : Nat) (fs : List Fld) (m : Nat) (ae : Option Addr) (ce : Nat) (es : List Edt) (w : World) (φ : Phi) (hφ : Fz φ w) (s : SlV φ a cap fs) (hn : Hid (fs.length = n)) (hm : n ≤ 9223372036854775807) (hg : Hid (∀ x ∈ fs, FldG x)) (se : SlV φ ae ce es) (hne : Hid (es.length = m)) (hme : m ≤ 9223372036854775807) (hge : Hid (∀ x ∈ es, EdtG x))
      (nr : Nat) (a2 : Option Addr) (c2 : Nat) (rec : List Int) (sr : SlV φ a2 c2 rec) (hrl : Hid (rec.length = nr)) (hmr : nr ≤ 9223372036854775807)
    {F : Int} (hF : Hid (withF fs es rec = F)) {l : List Int} {G : Int} (hb : Hid (leastR fs es rec F = (l, G))) :
    Calls Tryd.prog 20 #[.agg #[.slice a n cap, .slice ae m ce], .slice a2 nr c2] w (SlFPost l G φ w) := by
  have hi0 := Lib.hid ((Inv.start hφ).alloc (.cells #[.slice a n cap, .slice ae m ce] 25))
  go_enter Tryd.func20, Tryd.ntmps20
  go_wp2_with fail
  refine (with_f n a cap fs m ae ce es _ φ (hφ.alloc _) s hn hm hg se hne hme hge nr a2 c2 rec sr hrl hmr hF).mono ?_
  rintro e w1 ⟨φ1, p, rfl, hi1, hR⟩
  have HI := Lib.hid (hi0.out.call hi1)
  have HR := Lib.hid hR
  clear hi1 hi0 hR
  by_cases hf : F = 0
  · obtain ⟨br, a', cap', ae', ce', ab', cb', rfl, hV⟩ := HR.out hf
    obtain ⟨hp, hl⟩ := withF_zero (hF.out.trans hf)
    obtain ⟨q, hq⟩ : ∃ q, Hid (leastS fs es fs.length es.length rec = q) := ⟨_, Lib.hid rfl⟩
    obtain ⟨⟨bl, lw, fo⟩, bb⟩ := q
    have hb' : Hid ((if fo = true then (bl, 0) else ([], 9)) = (l, G)) := Lib.hid (by rw [← hb.out, leastR, if_pos hf, hq.out])
    have hl2 : Hid (rec.length = fs.length) := Lib.hid hl
    obtain rfl : fs.length = nr := by rw [← hrl.out, hl]
    have srr := sr.mono HI.out.le
    have hff : (F != 0) = false := by simp [hf]
    clear hf hp hl HR
    cases fo
    · go_wp2_with (go_at_call 46; refine (least_any hV w1 HI.out.fz a2 c2 rec srr hl2 hq).mono ?_; rintro e w' ⟨φ2, a5, c5, rfl, hi5, hs5⟩)
      go_ret2
      have h := hb'.out
      simp at h
      obtain ⟨rfl, rfl⟩ := h
      exact ⟨φ2, none, 0, rfl, HI.out.call hi5, SlV.empty _⟩
    · go_wp2_with (go_at_call 46; refine (least_any hV w1 HI.out.fz a2 c2 rec srr hl2 hq).mono ?_; rintro e w' ⟨φ2, a5, c5, rfl, hi5, hs5⟩)
      go_ret2
      have h := hb'.out
      simp at h
      obtain ⟨rfl, rfl⟩ := h
      exact ⟨φ2, a5, c5, rfl, HI.out.call hi5, hs5⟩
  · have hff : (F != 0) = true := by simp [hf]
    have HF := Lib.hid hf
    have hb' : Hid (([], F) = (l, G)) := Lib.hid (by rw [← hb.out, leastR, if_neg hf])
    clear hf
    go_wp2
    go_ret2
    obtain ⟨rfl, rfl⟩ := Prod.mk.inj hb'.out
    exact ⟨φ1, none, 0, rfl, HI.out, SlV.empty _⟩
def SlBFPost (l : List Int) (b : Bool) (F : Int) (φ : Phi) (w : World) (e : Ending) (w' : World) : Prop :=
  ∃ φ' a cap, e = .returned (.tuple #[.slice a l.length cap, .bool b, .int .i64 F]) ∧ Inv w.heap.size w φ φ' w' ∧ SlV φ' a cap l
def firstF (fs : List Fld) (rec free : List Int) (F : Int) : Int := if F = 0 then freeF fs.length free else F
def firstR (fs : List Fld) (es : List Edt) (rec free : List Int) (F : Int) : List Int × Bool := if F = 0 then firstS fs es fs.length es.length rec free else ([], false)
set_option maxHeartbeats 1000000 in
theorem First_any
  (n : Nat) (a : Option Addr) (cap : Nat) (fs : List Fld) (m : Nat) (ae : Option Addr) (ce : Nat) (es : List Edt) (w : World) (φ : Phi) (hφ : Fz φ w) (s : SlV φ a cap fs) (hn : Hid (fs.length = n)) (hm : n ≤ 9223372036854775807) (hg : Hid (∀ x ∈ fs, FldG x)) (se : SlV φ ae ce es) (hne : Hid (es.length = m)) (hme : m ≤ 9223372036854775807) (hge : Hid (∀ x ∈ es, EdtG x))
      (nr : Nat) (a2 : Option Addr) (c2 : Nat) (rec : List Int) (sr : SlV φ a2 c2 rec) (hrl : Hid (rec.length = nr)) (hmr : nr ≤ 9223372036854775807)
    (nf : Nat) (a3 : Option Addr) (c3 : Nat) (free : List Int) (sf : SlV φ a3 c3 free) (hfl : Hid (free.length = nf)) (hmf : nf ≤ 9223372036854775807)
    {F : Int} (hF : Hid (withF fs es rec = F)) {G : Int} (hG : Hid (firstF fs rec free F = G)) {l : List Int} {b : Bool} (hb : Hid (firstR fs es rec free G = (l, b))) :
    Calls Tryd.prog 14 #[.agg #[.slice a n cap, .slice ae m ce], .slice a2 nr c2, .slice a3 nf c3] w (SlBFPost l b G φ w) := by
  have hi0 := Lib.hid ((Inv.start hφ).alloc (.cells #[.slice a n cap, .slice ae m ce] 25))
  go_enter Tryd.func14, Tryd.ntmps14
  go_wp2_with fail
  refine (with_f n a cap fs m ae ce es _ φ (hφ.alloc _) s hn hm hg se hne hme hge nr a2 c2 rec sr hrl hmr hF).mono ?_
  rintro e w1 ⟨φ1, p, rfl, hi1, hR⟩
  have HI := Lib.hid (hi0.out.call hi1)
  have HR := Lib.hid hR
  clear hi1 hi0 hR
  by_cases hf : F = 0
  case neg =>
    have hff : (F != 0) = true := by simp [hf]
    have HF := Lib.hid hf
    have hg' : Hid (F = G) := Lib.hid (by rw [← hG.out, firstF, if_neg hf])
    have hb' : Hid (([], false) = (l, b)) := Lib.hid (by rw [← hb.out, firstR, ← hg'.out, if_neg hf])
    clear hf
    go_wp2
    go_ret3
    obtain ⟨rfl, rfl⟩ := Prod.mk.inj hb'.out
    obtain rfl := hg'.out
    exact ⟨φ1, none, 0, rfl, HI.out, SlV.empty _⟩
  obtain ⟨br, a', cap', ae', ce', ab', cb', rfl, hV⟩ := HR.out hf
  obtain ⟨hp, hl⟩ := withF_zero (hF.out.trans hf)
  have hl2 : Hid (rec.length = fs.length) := Lib.hid hl
  obtain rfl : fs.length = nr := by rw [← hrl.out, hl]
  have srr := sr.mono HI.out.le
  have sff := sf.mono HI.out.le
  have hff : (F != 0) = false := by simp [hf]
  have hg' : Hid (scan (freeBad fs.length free) nf = G) := Lib.hid (by rw [← hG.out, firstF, if_pos hf, freeF, hfl.out])
  have hn12 := hV.ok.pos
  clear hf hp hl HR
  have hNN : Hid (n = fs.length) := Lib.hid hn.out.symm
  generalize hNd : fs.length = N at *
  replace hNd := Lib.hid hNd
  go_wp2
  go_loop [26] (fun i => ∃ k : Nat, k ≤ nf ∧ i = .int .i64 k ∧ Hid (∀ i, i < k → freeBad N free i = 0)) (fun i => nf - (intOf i).toNat)
  case atStart => exact ⟨0, Nat.zero_le _, rfl, none_yet _⟩
  case round =>
    obtain ⟨k, hk, rfl, hok⟩ := hrel
    by_cases hlt : k < nf
    · obtain ⟨b1, o1, rfl, f1⟩ := sff.intsD hfl hlt
      have d1 := (f1 k hlt w1 HI.out.fz).2
      have HP := Lib.hid (fun h : 0 < k => (f1 (k - 1) (by omega) w1 HI.out.fz).2)
      have hbad : Hid (freeBad N free k = _) := Lib.hid (freeBad.eq_1 N free k)
      clear f1
      generalize free.getD k 0 = x at *
      generalize free.getD (k - 1) 0 = p at *
      obtain ⟨o, ho⟩ : ∃ o, Hid (outB x 0 ((N : Int) - 1) = o) := ⟨_, Lib.hid rfl⟩
      have STOP : Hid (∀ c, freeBad N free k = c → c ≠ 0 → G = c ∧ l = [] ∧ b = false) := Lib.hid (fun c hc hc0 => by
        have h1 : G = c := by rw [← hg'.out, scan_stop hok.out hlt (by rw [hc]; exact hc0), hc]
        have h2 := hb.out
        rw [firstR, if_neg (by rw [h1]; exact hc0)] at h2
        cases h2
        exact ⟨h1, rfl, rfl⟩)
      cases o
      case true =>
        go_wp2_with (go_at_call 36; refine (outside_b _ _ _ _ ho.out).mono ?_; rintro e w' ⟨rfl, rfl⟩)
        go_ret3
        obtain ⟨rfl, rfl, rfl⟩ := STOP.out 1 (by rw [hbad.out, if_pos ho.out]) (by decide)
        exact ⟨φ1, none, 0, rfl, HI.out, SlV.empty _⟩
      case false =>
        by_cases h3 : 0 < k
        · have hpp := HP.out h3
          have hix : 0 ≤ (k : Int) - 1 := by omega
          have hix2 : (k : Int) - 1 < nf := by omega
          have hto : ((k : Int) - 1).toNat = k - 1 := by omega
          by_cases hle : x ≤ p
          · go_wp2_with (go_at_call 36; refine (outside_b _ _ _ _ ho.out).mono ?_; rintro e w' ⟨rfl, rfl⟩)
            go_ret3
            obtain ⟨rfl, rfl, rfl⟩ := STOP.out 7 (by rw [hbad.out, if_neg (by rw [ho.out]; simp), if_pos ⟨h3, hle⟩]) (by decide)
            exact ⟨φ1, none, 0, rfl, HI.out, SlV.empty _⟩
          · go_wp2_with (go_at_call 36; refine (outside_b _ _ _ _ ho.out).mono ?_; rintro e w' ⟨rfl, rfl⟩)
            go_round
            case rel => exact ⟨k + 1, by omega, by go_num, next_ok hok (by rw [hbad.out, if_neg (by rw [ho.out]; simp), if_neg (by omega)])⟩
            case measure => simp [intOf]; omega
        · have h3i : decide ((0 : Int) < k) = false := decide_eq_false (by omega)
          go_wp2_with (go_at_call 36; refine (outside_b _ _ _ _ ho.out).mono ?_; rintro e w' ⟨rfl, rfl⟩)
          go_round
          case rel => exact ⟨k + 1, by omega, by go_num, next_ok hok (by rw [hbad.out, if_neg (by rw [ho.out]; simp), if_neg (by omega)])⟩
          case measure => simp [intOf]; omega
    · obtain rfl : k = nf := by omega
      have hG0 : Hid (G = 0) := Lib.hid (by rw [← hg'.out, scan_zero _ _ hok.out])
      have hfr : Hid (∀ j ∈ free, 0 ≤ j ∧ j < N) := Lib.hid (freeF_zero (by rw [freeF, hfl.out]; exact scan_zero _ _ hok.out))
      have hq : Hid (firstS fs es N es.length rec free = (l, b)) := Lib.hid (by rw [← hb.out, firstR, hG0.out, if_pos rfl, hNd.out])
      go_wp2_with (go_at_call 37; refine (first_any hV w1 HI.out.fz a2 c2 rec srr hl2 _ a3 c3 free sff hfl hmf hfr hq).mono ?_; rintro e w' ⟨φ2, a5, c5, rfl, hi5, hs5⟩)
      go_ret3
      obtain rfl := hG0.out
      exact ⟨φ2, a5, c5, rfl, HI.out.call hi5, hs5⟩
end Go.Proofs.YtambgcijceecpaaDoor
