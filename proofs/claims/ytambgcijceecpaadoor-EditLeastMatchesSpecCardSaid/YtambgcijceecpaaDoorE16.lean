/- The walks of the closure of least, and of least. Conditions: none beyond what the claim form gives. -/
import Derived.Test.YtambgcijceecpaaDoorE15
namespace Go.Proofs.YtambgcijceecpaaDoor
open Go.RowKit
set_option linter.unusedVariables false

theorem leastV_eq {fs : List Fld} {es : List Edt} {n m : Nat} {rec x : List Int} {s : LSt} {L : List Int} {W q : Int} {nL nb nf : Nat} (hL : apL rec x n = L) (hW : wSum fs L = W) (hn : L.length = nL) (hb : s.1.length = nb) (hq : cmpI L s.1 = q) (hf : (failL es x n m).length = nf) :
    leastV fs es n m rec x s = (if (s.2.2 = false ∨ W < s.2.1 ∨ (W = s.2.1 ∧ (nL < nb ∨ (nL = nb ∧ q < 0)))) ∧ nf = 0 then (L, W, true) else s, false) := by
  unfold leastV
  rw [hL, hW, hn, hb, hq, hf]
  simp
/-- The state of least's closure. -/
structure LeJ (B : Nat) (w0 : World) (br : Nat) (rv : Value) (b2 b3 b6 b7 b8 g : Nat) (φ : Phi) (s : LSt) (w : World) : Prop where
  h : HoldS B w0 φ g b6 26 s.1 w
  k2 : Blk w b2 #[.pointer (some ⟨br, 0, none⟩)] 54
  k3 : Blk w b3 #[rv] 26
  k7 : Blk w b7 #[.int .i64 s.2.1] 3
  k8 : Blk w b8 #[.bool s.2.2] 4
  f7 : φ b7 = none
  f8 : φ b8 = none
  lt : b2 < b6 ∧ b3 < b6 ∧ b6 < b7 ∧ b7 < b8 ∧ b8 < g
section
variable {B : Nat} {w0 w w' : World} {br b2 b3 b6 b7 b8 g : Nat} {rv : Value} {φ : Phi} {s : LSt}
theorem LeJ.callB (h : LeJ B w0 br rv b2 b3 b6 b7 b8 g φ s w) (hb : Below w.heap.size w w') : LeJ B w0 br rv b2 b3 b6 b7 b8 g φ s w' :=
  ⟨h.h.callB hb, h.k2.callB hb, h.k3.callB hb, h.k7.callB hb, h.k8.callB hb, h.f7, h.f8, h.lt⟩
theorem LeJ.row (h : LeJ B w0 br rv b2 b3 b6 b7 b8 g φ s w) (k : Nat) (v : Value) : LeJ B w0 br rv b2 b3 b6 b7 b8 g φ s (w.setCell ⟨g, k, none⟩ v) := by
  have lt := h.lt
  exact ⟨h.h.row k v, h.k2.other (by show g ≠ b2; omega) v, h.k3.other (by show g ≠ b3; omega) v, h.k7.other (by show g ≠ b7; omega) v, h.k8.other (by show g ≠ b8; omega) v, h.f7, h.f8, lt⟩
theorem LeJ.put (h : LeJ B w0 br rv b2 b3 b6 b7 b8 g φ s w) (hb : Below w.heap.size w w') {ψ : Phi} {a : Option Addr} {c : Nat} {l : List Int} (ho : Own w.heap.size ψ w' 3 a c l) (lw : Int) :
    LeJ B w0 br rv b2 b3 b6 b7 b8 g φ (l, lw, true) (((w'.setCell ⟨b6, 0, none⟩ (.slice a l.length c)).setCell ⟨b7, 0, none⟩ (.int .i64 lw)).setCell ⟨b8, 0, none⟩ (.bool true)) := by
  have lt := h.lt
  have lo := h.h.lo
  refine ⟨((h.h.put hb ho).set (by omega) (by omega) h.f7 (by omega) _).set (by omega) (by omega) h.f8 (by omega) _, ?_, ?_, ?_, ?_, h.f7, h.f8, lt⟩
  · exact (((h.k2.callB hb).other (by show b6 ≠ b2; omega) _).other (by show b7 ≠ b2; omega) _).other (by show b8 ≠ b2; omega) _
  · exact (((h.k3.callB hb).other (by show b6 ≠ b3; omega) _).other (by show b7 ≠ b3; omega) _).other (by show b8 ≠ b3; omega) _
  · exact (((h.k7.callB hb).other (by show b6 ≠ b7; omega) _).set 0 _).other (by show b8 ≠ b7; omega) _
  · exact (((h.k8.callB hb).other (by show b6 ≠ b8; omega) _).other (by show b7 ≠ b8; omega) _).set 0 _
end
theorem Own.set_ne {α : Type} [Rep α] {B : Nat} {φ : Phi} {w : World} {E : TypeId} {g cap : Nat} {xs : List α} (h : Own B φ w E (some ⟨g, 0, none⟩) cap xs) {b k : Nat} {v : Value} (hne : g ≠ b) : Own B φ (w.setCell ⟨b, k, none⟩ v) E (some ⟨g, 0, none⟩) cap xs :=
  h.other (grown_set _ _ _ _) (fun y hy e => by cases hy; have e2 : g = b := Option.some.inj e; exact hne e2)
def ApPostN (fs : List Fld) (xs : List Int) (k : Nat) (W : Int) (φ : Phi) (w : World) (e : Ending) (w' : World) : Prop :=
  ∃ a cap, e = .returned (.tuple #[.slice a k cap, .int .i64 W]) ∧ Inv w.heap.size w φ φ w' ∧ Own w.heap.size φ w' 3 a cap xs
theorem ApPost.toN {fs : List Fld} {xs : List Int} {k : Nat} {W : Int} {φ : Phi} {w : World} {e : Ending} {w' : World} (hk : xs.length = k) (hW : wSum fs xs = W) (h : ApPost fs xs φ w e w') : ApPostN fs xs k W φ w e w' := by subst hk; subst hW; exact h
theorem OwnPost.toN {xs : List Int} {k : Nat} {φ : Phi} {w : World} {e : Ending} {w' : World} (hk : xs.length = k) (h : OwnPost xs φ w e w') : OwnPostN k xs φ w e w' := by subst hk; exact h
set_option maxHeartbeats 4000000 in
theorem leastC_any
  {φ : Phi} {br : Nat} {fs : List Fld} {es : List Edt} {n m : Nat} {a : Option Addr} {cap : Nat} {ae : Option Addr} {ce : Nat} {ab : Option Addr} {cb : Nat} (R : RulV φ br fs es n m a cap ae ce ab cb)
    {B : Nat} {w0 : World} {b2 b3 b6 b7 b8 g c : Nat} {a3 : Option Addr} {c3 : Nat} {rec : List Int} (sr : SlV φ a3 c3 rec) (hrl : Hid (rec.length = n)) (x : List Int) (s : LSt) (w : World) (hx : Hid (x.length = n)) (hJ : LeJ B w0 br (.slice a3 n c3) b2 b3 b6 b7 b8 g φ s w) (hO : Own B φ w 3 (some ⟨g, 0, none⟩) c x) :
    Calls Tryd.prog 77 #[.slice (some ⟨g, 0, none⟩) n c, .pointer (some ⟨b2, 0, none⟩), .pointer (some ⟨b3, 0, none⟩), .pointer (some ⟨b8, 0, none⟩), .pointer (some ⟨b7, 0, none⟩), .pointer (some ⟨b6, 0, none⟩)] w (VisPost (LeJ B w0 br (.slice a3 n c3) b2 b3 b6 b7 b8 g φ) B φ g c x (leastV fs es n m rec x s)) := by
  have hn12 := R.ok.pos
  obtain ⟨φx, hle, hix, sx, _⟩ := hO.release hJ.h.inv
  have Rx := R.mono hle
  have srx := sr.mono hle
  have hfx := Lib.hid hix.fz
  obtain ⟨φ3, a6, c6, l3, z3, n3, s3, k6⟩ := hJ.h.ex
  have Z3 := Lib.hid z3
  obtain ⟨L, hL⟩ : ∃ L, Hid (apL rec x n = L) := ⟨_, Lib.hid rfl⟩
  obtain ⟨W, hW⟩ : ∃ W, Hid (wSum fs L = W) := ⟨_, Lib.hid rfl⟩
  obtain ⟨nL, hnL⟩ : ∃ k, Hid (L.length = k) := ⟨_, Lib.hid rfl⟩
  obtain ⟨b, lw, fo⟩ := s
  dsimp only at s3 k6
  obtain ⟨nb, hnb⟩ : ∃ k, Hid (b.length = k) := ⟨_, Lib.hid rfl⟩
  obtain ⟨q, hq⟩ : ∃ k, Hid (cmpI L b = k) := ⟨_, Lib.hid rfl⟩
  obtain ⟨nf, hnf⟩ : ∃ k, Hid ((failL es x n m).length = k) := ⟨_, Lib.hid rfl⟩
  have hv : Hid (leastV fs es n m rec x (b, lw, fo) = _) := Lib.hid (leastV_eq (s := (b, lw, fo)) hL.out hW.out hnL.out hnb.out hq.out hnf.out)
  dsimp only at hv
  have hnLb : nL ≤ n := by have := apL_len rec x n; rw [hL.out, hnL.out] at this; exact this
  have hbb := s3.capn
  have hbm := s3.capm
  rw [hnb.out] at hbb k6
  unfold maxLen at hbm
  have JH := Lib.hid hJ
  have OH := Lib.hid hO
  have K6 := Lib.hid k6
  have d1 : w.cell? ⟨b2, 0, none⟩ = some (.pointer (some ⟨br, 0, none⟩)) := hJ.k2.cell 0
  have d2 : w.cell? ⟨b3, 0, none⟩ = some (.slice a3 n c3) := hJ.k3.cell 0
  clear hJ hO hle hix z3 n3 l3 k6
  go_enter Tryd.func77, Tryd.ntmps77
  go_wp2_with fail
  refine ((apart_any Rx w hfx.out a3 c3 rec srx hrl _ c x sx hx).mono (fun e w' h => ApPost.toN (k := nL) (W := W) (by rw [hL.out]; exact hnL.out) (by rw [hL.out]; exact hW.out) h)).mono ?_
  rintro e w1 ⟨aL, cL, rfl, hi1, ho1⟩
  rw [hL.out] at ho1
  obtain ⟨φL, lL, hiL, sL, _⟩ := ho1.release hi1
  have HL := Lib.hid hiL.fz
  have HO1 := Lib.hid ho1
  have HI1 := Lib.hid hi1
  have J1 := JH.out.callB hi1.bel
  have e2 : w1.cell? ⟨b2, 0, none⟩ = some (.pointer (some ⟨br, 0, none⟩)) := J1.k2.cell 0
  have e6 : w1.cell? ⟨b6, 0, none⟩ = some (.slice a6 nb c6) := (K6.out.callB hi1.bel).cell 0
  have e7 : w1.cell? ⟨b7, 0, none⟩ = some (.int .i64 lw) := J1.k7.cell 0
  have e8 : w1.cell? ⟨b8, 0, none⟩ = some (.bool fo) := J1.k8.cell 0
  have Z31 := Lib.hid (Z3.out.below hi1.bel)
  have FX1 := Lib.hid (hfx.out.below hi1.bel)
  clear hiL lL ho1 hi1 J1 d1 d2
  cases fo
  case false =>
    go_wp2_with (first
      | (go_at_call 79; (refine (Compare_any _ aL cL L _ a6 c6 b w1 φL φ3 HL.out Z31.out sL hnL (by omega) s3 hnb (by omega) hq).mono ?_; rintro e w' ⟨rfl, rfl⟩))
      | (go_at_call 31; (refine ((fails_any Rx w1 FX1.out _ c x sx hx).mono (fun e w' h => OwnPost.toN (k := nf) hnf.out h)).mono ?_; rintro e w2 ⟨aF, cF, rfl, hi2, ho2⟩; have hb2 := Lib.hid (HI1.out.bel.trans (hi2.bel.mono HI1.out.bel.size)); have HO2 := Lib.hid (HO1.out.callB hi2.bel); have J2 := JH.out.callB hb2.out; have k6' := (K6.out.callB hb2.out).cell 0; have q7 := (J2.k7.other (by show b6 ≠ b7; have := J2.lt; omega) (.slice aL nL cL) : Blk (w2.setCell ⟨b6, 0, none⟩ (.slice aL nL cL)) b7 _ _); have q8 := ((J2.k8.other (by show b6 ≠ b8; have := J2.lt; omega) (.slice aL nL cL)).other (by show b7 ≠ b8; have := J2.lt; omega) (.int .i64 W) : Blk ((w2.setCell ⟨b6, 0, none⟩ (.slice aL nL cL)).setCell ⟨b7, 0, none⟩ (.int .i64 W)) b8 _ _); have k7' := q7.cell 0; have k8' := q8.cell 0; have k6f : w2.frozen? ⟨b6, 0, none⟩ = false := (K6.out.callB hb2.out).frz 0; have k7f := q7.frz 0; have k8f := q8.frz 0; clear q7 q8; clear hi2 ho2 J2)))
    all_goals
      go_ret
      first
        | (have h0 : ((nf : Int) == 0) = true := by assumption
           have h1 : nf = 0 := by have h2 := eq_of_beq h0; omega
           rw [hv.out, if_pos (And.intro (by first | exact .inl rfl | exact .inl trivial | (right; omega) | (right; simp only [true_and]; omega)) h1)]
           have P := Lib.hid (JH.out.put hb2.out HO2.out W)
           rw [hnL.out] at P
           have lt := JH.out.lt
           exact ⟨rfl, P.out, (((OH.out.callB hb2.out).set_ne (by omega)).set_ne (by omega)).set_ne (by omega)⟩)
        | (rw [hv.out, if_neg (fun h => by
             have h' : ((nf : Int) == 0) = false := by assumption
             rw [h.2] at h'
             simp at h')]
           exact ⟨rfl, JH.out.callB hb2.out, OH.out.callB hb2.out⟩)
        | (rw [hv.out, if_neg (fun h => by
             rcases h.1 with h0 | h0
             · cases h0
             · first | omega | (simp only [true_and] at h0; omega))]
           exact ⟨rfl, JH.out.callB HI1.out.bel, OH.out.callB HI1.out.bel⟩)
  case true =>
    by_cases e1 : W = lw
    · subst e1
      by_cases e2 : nL = nb
      · subst e2
        go_wp2_with (first
          | (go_at_call 79; (refine (Compare_any _ aL cL L _ a6 c6 b w1 φL φ3 HL.out Z31.out sL hnL (by omega) s3 hnb (by omega) hq).mono ?_; rintro e w' ⟨rfl, rfl⟩))
          | (go_at_call 31; (refine ((fails_any Rx w1 FX1.out _ c x sx hx).mono (fun e w' h => OwnPost.toN (k := nf) hnf.out h)).mono ?_; rintro e w2 ⟨aF, cF, rfl, hi2, ho2⟩; have hb2 := Lib.hid (HI1.out.bel.trans (hi2.bel.mono HI1.out.bel.size)); have HO2 := Lib.hid (HO1.out.callB hi2.bel); have J2 := JH.out.callB hb2.out; have k6' := (K6.out.callB hb2.out).cell 0; have q7 := (J2.k7.other (by show b6 ≠ b7; have := J2.lt; omega) (.slice aL nL cL) : Blk (w2.setCell ⟨b6, 0, none⟩ (.slice aL nL cL)) b7 _ _); have q8 := ((J2.k8.other (by show b6 ≠ b8; have := J2.lt; omega) (.slice aL nL cL)).other (by show b7 ≠ b8; have := J2.lt; omega) (.int .i64 W) : Blk ((w2.setCell ⟨b6, 0, none⟩ (.slice aL nL cL)).setCell ⟨b7, 0, none⟩ (.int .i64 W)) b8 _ _); have k7' := q7.cell 0; have k8' := q8.cell 0; have k6f : w2.frozen? ⟨b6, 0, none⟩ = false := (K6.out.callB hb2.out).frz 0; have k7f := q7.frz 0; have k8f := q8.frz 0; clear q7 q8; clear hi2 ho2 J2)))
        all_goals
          go_ret
          first
            | (have h0 : ((nf : Int) == 0) = true := by assumption
               have h1 : nf = 0 := by have h2 := eq_of_beq h0; omega
               rw [hv.out, if_pos (And.intro (by first | exact .inl rfl | exact .inl trivial | (right; omega) | (right; simp only [true_and]; omega)) h1)]
               have P := Lib.hid (JH.out.put hb2.out HO2.out W)
               rw [hnL.out] at P
               have lt := JH.out.lt
               exact ⟨rfl, P.out, (((OH.out.callB hb2.out).set_ne (by omega)).set_ne (by omega)).set_ne (by omega)⟩)
            | (rw [hv.out, if_neg (fun h => by
                 have h' : ((nf : Int) == 0) = false := by assumption
                 rw [h.2] at h'
                 simp at h')]
               exact ⟨rfl, JH.out.callB hb2.out, OH.out.callB hb2.out⟩)
            | (rw [hv.out, if_neg (fun h => by
                 rcases h.1 with h0 | h0
                 · cases h0
                 · first | omega | (simp only [true_and] at h0; omega))]
               exact ⟨rfl, JH.out.callB HI1.out.bel, OH.out.callB HI1.out.bel⟩)
      · have e3 : ((nL : Int) == nb) = false := by simp; omega
        go_wp2_with (first
          | (go_at_call 79; (refine (Compare_any _ aL cL L _ a6 c6 b w1 φL φ3 HL.out Z31.out sL hnL (by omega) s3 hnb (by omega) hq).mono ?_; rintro e w' ⟨rfl, rfl⟩))
          | (go_at_call 31; (refine ((fails_any Rx w1 FX1.out _ c x sx hx).mono (fun e w' h => OwnPost.toN (k := nf) hnf.out h)).mono ?_; rintro e w2 ⟨aF, cF, rfl, hi2, ho2⟩; have hb2 := Lib.hid (HI1.out.bel.trans (hi2.bel.mono HI1.out.bel.size)); have HO2 := Lib.hid (HO1.out.callB hi2.bel); have J2 := JH.out.callB hb2.out; have k6' := (K6.out.callB hb2.out).cell 0; have q7 := (J2.k7.other (by show b6 ≠ b7; have := J2.lt; omega) (.slice aL nL cL) : Blk (w2.setCell ⟨b6, 0, none⟩ (.slice aL nL cL)) b7 _ _); have q8 := ((J2.k8.other (by show b6 ≠ b8; have := J2.lt; omega) (.slice aL nL cL)).other (by show b7 ≠ b8; have := J2.lt; omega) (.int .i64 W) : Blk ((w2.setCell ⟨b6, 0, none⟩ (.slice aL nL cL)).setCell ⟨b7, 0, none⟩ (.int .i64 W)) b8 _ _); have k7' := q7.cell 0; have k8' := q8.cell 0; have k6f : w2.frozen? ⟨b6, 0, none⟩ = false := (K6.out.callB hb2.out).frz 0; have k7f := q7.frz 0; have k8f := q8.frz 0; clear q7 q8; clear hi2 ho2 J2)))
        all_goals
          go_ret
          first
            | (have h0 : ((nf : Int) == 0) = true := by assumption
               have h1 : nf = 0 := by have h2 := eq_of_beq h0; omega
               rw [hv.out, if_pos (And.intro (by first | exact .inl rfl | exact .inl trivial | (right; omega) | (right; simp only [true_and]; omega)) h1)]
               have P := Lib.hid (JH.out.put hb2.out HO2.out W)
               rw [hnL.out] at P
               have lt := JH.out.lt
               exact ⟨rfl, P.out, (((OH.out.callB hb2.out).set_ne (by omega)).set_ne (by omega)).set_ne (by omega)⟩)
            | (rw [hv.out, if_neg (fun h => by
                 have h' : ((nf : Int) == 0) = false := by assumption
                 rw [h.2] at h'
                 simp at h')]
               exact ⟨rfl, JH.out.callB hb2.out, OH.out.callB hb2.out⟩)
            | (rw [hv.out, if_neg (fun h => by
                 rcases h.1 with h0 | h0
                 · cases h0
                 · first | omega | (simp only [true_and] at h0; omega))]
               exact ⟨rfl, JH.out.callB HI1.out.bel, OH.out.callB HI1.out.bel⟩)
    · have e3 : (W == lw) = false := by simp [e1]
      go_wp2_with (first
        | (go_at_call 79; (refine (Compare_any _ aL cL L _ a6 c6 b w1 φL φ3 HL.out Z31.out sL hnL (by omega) s3 hnb (by omega) hq).mono ?_; rintro e w' ⟨rfl, rfl⟩))
        | (go_at_call 31; (refine ((fails_any Rx w1 FX1.out _ c x sx hx).mono (fun e w' h => OwnPost.toN (k := nf) hnf.out h)).mono ?_; rintro e w2 ⟨aF, cF, rfl, hi2, ho2⟩; have hb2 := Lib.hid (HI1.out.bel.trans (hi2.bel.mono HI1.out.bel.size)); have HO2 := Lib.hid (HO1.out.callB hi2.bel); have J2 := JH.out.callB hb2.out; have k6' := (K6.out.callB hb2.out).cell 0; have q7 := (J2.k7.other (by show b6 ≠ b7; have := J2.lt; omega) (.slice aL nL cL) : Blk (w2.setCell ⟨b6, 0, none⟩ (.slice aL nL cL)) b7 _ _); have q8 := ((J2.k8.other (by show b6 ≠ b8; have := J2.lt; omega) (.slice aL nL cL)).other (by show b7 ≠ b8; have := J2.lt; omega) (.int .i64 W) : Blk ((w2.setCell ⟨b6, 0, none⟩ (.slice aL nL cL)).setCell ⟨b7, 0, none⟩ (.int .i64 W)) b8 _ _); have k7' := q7.cell 0; have k8' := q8.cell 0; have k6f : w2.frozen? ⟨b6, 0, none⟩ = false := (K6.out.callB hb2.out).frz 0; have k7f := q7.frz 0; have k8f := q8.frz 0; clear q7 q8; clear hi2 ho2 J2)))
      all_goals
        go_ret
        first
          | (have h0 : ((nf : Int) == 0) = true := by assumption
             have h1 : nf = 0 := by have h2 := eq_of_beq h0; omega
             rw [hv.out, if_pos (And.intro (by first | exact .inl rfl | exact .inl trivial | (right; omega) | (right; simp only [true_and]; omega)) h1)]
             have P := Lib.hid (JH.out.put hb2.out HO2.out W)
             rw [hnL.out] at P
             have lt := JH.out.lt
             exact ⟨rfl, P.out, (((OH.out.callB hb2.out).set_ne (by omega)).set_ne (by omega)).set_ne (by omega)⟩)
          | (rw [hv.out, if_neg (fun h => by
               have h' : ((nf : Int) == 0) = false := by assumption
               rw [h.2] at h'
               simp at h')]
             exact ⟨rfl, JH.out.callB hb2.out, OH.out.callB hb2.out⟩)
          | (rw [hv.out, if_neg (fun h => by
               rcases h.1 with h0 | h0
               · cases h0
               · first | omega | (simp only [true_and] at h0; omega))]
             exact ⟨rfl, JH.out.callB HI1.out.bel, OH.out.callB HI1.out.bel⟩)
end Go.Proofs.YtambgcijceecpaaDoor
