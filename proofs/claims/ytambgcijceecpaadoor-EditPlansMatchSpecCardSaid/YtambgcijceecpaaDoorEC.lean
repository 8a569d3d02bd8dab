/- The walk of all, once for each closure; the walks of the closure of least, and of least. The walks of the closure of least, and of least. The walks of least, Passes, Least. The walks of Passes, Least, First. Conditions: none beyond what the claim form gives. -/
import Derived.Test.YtambgcijceecpaaDoorE14
namespace Go.Proofs.YtambgcijceecpaaDoor
open Go.RowKit
set_option linter.unusedVariables false

def onB (n k : Nat) : List Bool := (List.range n).map (fun i : Nat => decide (i < k))
theorem onB_len (n k : Nat) : (onB n k).length = n := by unfold onB; simp
theorem onB_nil (n : Nat) : onB n 0 = List.replicate n false := by
  unfold onB; apply List.ext_getElem
  · simp
  · intro i h1 h2; simp
theorem onB_all (n : Nat) : onB n n = List.replicate n true := by
  unfold onB; apply List.ext_getElem
  · simp
  · intro i h1 h2; simp at h1; simp [h1]
theorem onB_step {n k : Nat} : (onB n k).set k true = onB n (k + 1) := by
  apply List.ext_getElem
  · rw [List.length_set, onB_len, onB_len]
  · intro i h1 h2
    rw [List.getElem_set]
    simp only [onB, List.getElem_map, List.getElem_range]
    by_cases e : k = i
    · subst e; simp
    · rw [if_neg e, decide_eq_decide]; omega
def AllPost {σ : Type} (J : Nat → Phi → σ → World → Prop) (φ : Phi) (q : σ × Bool) (e : Ending) (w' : World) : Prop :=
  e = .returned (.bool q.2) ∧ ∃ g φ2, φ.le φ2 ∧ J g φ2 q.1 w'
set_option maxRecDepth 100000 in
set_option maxHeartbeats 1000000 in
theorem all_least
  {φ : Phi} {br : Nat} {fs : List Fld} {es : List Edt} {n m : Nat} {a : Option Addr} {cap : Nat} {ae : Option Addr} {ce : Nat} {ab : Option Addr} {cb : Nat} (R : RulV φ br fs es n m a cap ae ce ab cb)
    {σ : Type} {J : Nat → Phi → σ → World → Prop} {V : List Int → σ → σ × Bool} {B : Nat} {w0 : World} {p1 p2 p3 p4 p5 : Nat} (w : World) (s : σ) (hB : B ≤ w.heap.size) (hφ : Fz φ w)
    (h0 : ∀ g φ2 w', φ.le φ2 → Inv w.heap.size w φ φ2 w' → w.heap.size ≤ g → g < w'.heap.size → φ2 g = none → J g φ2 s w')
    (hi : ∀ g φ2 s w, J g φ2 s w → Inv B w0 φ2 φ2 w) (hset : ∀ g φ2 s w k v, J g φ2 s w → J g φ2 s (w.setCell ⟨g, k, none⟩ v))
    (hV : ∀ g c φ2, φ.le φ2 → ∀ x s w, Hid (x.length = n) → J g φ2 s w → Own B φ2 w 3 (some ⟨g, 0, none⟩) c x → Calls Tryd.prog 77 #[.slice (some ⟨g, 0, none⟩) n c, .pointer (some ⟨p1, 0, none⟩), .pointer (some ⟨p2, 0, none⟩), .pointer (some ⟨p3, 0, none⟩), .pointer (some ⟨p4, 0, none⟩), .pointer (some ⟨p5, 0, none⟩)] w (fun e w' => e = .returned (.bool (V x s).2) ∧ J g φ2 (V x s).1 w' ∧ Own B φ2 w' 3 (some ⟨g, 0, none⟩) c x))
    {q : σ × Bool} (hq : Hid (foldU V (comps fs (List.replicate n true) n 0 (List.replicate n 0)) s = q)) :
    Calls Tryd.prog 44 #[.pointer (some ⟨br, 0, none⟩), .func (.func 77) #[] #[.pointer (some ⟨p1, 0, none⟩), .pointer (some ⟨p2, 0, none⟩), .pointer (some ⟨p3, 0, none⟩), .pointer (some ⟨p4, 0, none⟩), .pointer (some ⟨p5, 0, none⟩)]] w (AllPost J φ q) := by
  have hn12 := R.ok.pos
  have r0 : w.cell? ⟨br, 0, none⟩ = some (.slice a n cap) := (R.blk hφ).cell 0
  go_enter Tryd.func44, Tryd.ntmps44
  go_wp2_with (at_make; refine wpList_mkn (α := Bool) rfl _ _ 71 rfl slBo (Inv.start hφ) _ _ n false (fun _ => rfl) rfl rfl rfl (by omega) ?_; intro w1 hi1 hown1 hg1)
  rw [← onB_nil] at hown1
  have HS : Hid (Inv w.heap.size w φ φ w1 ∧ Own w.heap.size φ w1 4 (some ⟨w.heap.size, 0, none⟩) n (onB n 0)) := Lib.hid ⟨hi1, hown1⟩
  have H0 := Lib.hid h0
  clear hi1 hown1 hg1 r0 h0
  generalize hbf : w.heap.size = bf at *
  replace hbf := Lib.hid hbf
  go_loopw [18] (fun i wr => ∃ k : Nat, k ≤ n ∧ i = .int .i64 k ∧ Hid (Inv bf w φ φ wr ∧ Own bf φ wr 4 (some ⟨bf, 0, none⟩) n (onB n k))) (fun i _ => n - (intOf i).toNat)
  case atStart => exact ⟨0, Nat.zero_le _, rfl, HS⟩
  case round =>
    clear HS
    obtain ⟨k, hk, rfl, hS⟩ := hrel
    by_cases hlt : k < n
    · obtain ⟨g, hg, hgl, fO⟩ := hS.out.2.boolsD (Lib.hid (onB_len n _)) hlt
      cases hg
      obtain ⟨d3, d4, hst⟩ := fO k hlt
      have HST := Lib.hid (hst true w φ hS.out.1)
      clear fO hst
      go_wp2
      go_roundw
      case rel => exact ⟨k + 1, by omega, by go_num, Lib.hid ⟨HST.out.2, by rw [← onB_step]; exact HST.out.1⟩⟩
      case measure => simp [intOf]; omega
    · obtain rfl : k = n := by omega
      have hO3 := hS.out.2
      rw [onB_all] at hO3
      obtain ⟨φ2, l2, hi2, s2, f2⟩ := hO3.release hS.out.1
      have L2 := Lib.hid l2
      have I2 := Lib.hid hi2
      have S2 := Lib.hid s2
      have R2 := R.mono L2.out
      clear l2 hi2 s2 f2 hO3 hS
      go_wp2_with (at_make; refine wpList_mkn (α := Int) rfl _ _ 26 rfl slI I2.out _ _ k 0 (fun _ => rfl) rfl rfl rfl (by omega) ?_; intro w3 hi3 hown3 hg3)
      have hsz := I2.out.size
      have hgn := (hown3.free _ rfl)
      have hgl := (hown3.lt _ rfl).2
      have HJ := Lib.hid (H0.out wr.heap.size φ2 w3 L2.out hi3 hsz hgl hgn)
      have HO := Lib.hid (hown3.base hB)
      clear hi3 hown3 hg3 hgn hgl
      generalize wr.heap.size = g at *
      go_wp2_with (go_at_call 68; refine (each_least (R2) (J := J g φ2) (V := V) S2.out (Lib.hid (List.length_replicate)) (fun s w h => hi g φ2 s w h) (fun s w k v h => hset g φ2 s w k v h) (fun x s w hx hJ hO => hV g k φ2 L2.out x s w hx hJ hO) k 0 rfl (Nat.zero_le _) 0 rfl (List.replicate k 0) s w3 (Lib.hid (List.length_replicate)) HJ.out HO.out hq).mono ?_; rintro e w6 ⟨x6, rfl, hx6, hJ6, hO6, _⟩)
      go_ret
      exact ⟨rfl, g, φ2, L2.out, hJ6⟩
end Go.Proofs.YtambgcijceecpaaDoor

namespace Go.Proofs.YtambgcijceecpaaDoor
open Go.RowKit
set_option linter.unusedVariables false

theorem leastV_eq {fs : List Fld} {es : List Edt} {n m : Nat} {rec x : List Int} {s : LSt} {L : List Int} {W q : Int} {nL nb nf : Nat} (hL : apL rec x n = L) (hW : wSum fs L = W) (hn : L.length = nL) (hb : s.1.length = nb) (hq : cmpI L s.1 = q) (hf : (failL es x n m).length = nf) :
    leastV fs es n m rec x s = (if (s.2.2 = false ∨ W < s.2.1 ∨ (W = s.2.1 ∧ (nL < nb ∨ (nL = nb ∧ q < 0)))) ∧ nf = 0 then (L, W, true) else s, false) := by
  unfold leastV
  rw [hL, hW, hn, hb, hq, hf]
  simp
/-- The state of least's closure. -/
structure LeJ (B : Nat) (w0 : World) (br : Nat) (rv : Value) (b2 b3 b6 b7 b8 g : Nat) (φ : Phi) (s : LSt) (w : World) : Prop where
  h : HoldS B w0 φ g b6 26 s.1 w
  k2 : Blk w b2 #[.pointer (some ⟨br, 0, none⟩)] 54
  k3 : Blk w b3 #[rv] 26
  k7 : Blk w b7 #[.int .i64 s.2.1] 3
  k8 : Blk w b8 #[.bool s.2.2] 4
  f7 : φ b7 = none
  f8 : φ b8 = none
  lt : b2 < b6 ∧ b3 < b6 ∧ b6 < b7 ∧ b7 < b8 ∧ b8 < g
section
variable {B : Nat} {w0 w w' : World} {br b2 b3 b6 b7 b8 g : Nat} {rv : Value} {φ : Phi} {s : LSt}
theorem LeJ.callB (h : LeJ B w0 br rv b2 b3 b6 b7 b8 g φ s w) (hb : Below w.heap.size w w') : LeJ B w0 br rv b2 b3 b6 b7 b8 g φ s w' :=
  ⟨h.h.callB hb, h.k2.callB hb, h.k3.callB hb, h.k7.callB hb, h.k8.callB hb, h.f7, h.f8, h.lt⟩
theorem LeJ.row (h : LeJ B w0 br rv b2 b3 b6 b7 b8 g φ s w) (k : Nat) (v : Value) : LeJ B w0 br rv b2 b3 b6 b7 b8 g φ s (w.setCell ⟨g, k, none⟩ v) := by
  have lt := h.lt
  exact ⟨h.h.row k v, h.k2.other (by show g ≠ b2; omega) v, h.k3.other (by show g ≠ b3; omega) v, h.k7.other (by show g ≠ b7; omega) v, h.k8.other (by show g ≠ b8; omega) v, h.f7, h.f8, lt⟩
theorem LeJ.put (h : LeJ B w0 br rv b2 b3 b6 b7 b8 g φ s w) (hb : Below w.heap.size w w') {ψ : Phi} {a : Option Addr} {c : Nat} {l : List Int} (ho : Own w.heap.size ψ w' 3 a c l) (lw : Int) :
    LeJ B w0 br rv b2 b3 b6 b7 b8 g φ (l, lw, true) (((w'.setCell ⟨b6, 0, none⟩ (.slice a l.length c)).setCell ⟨b7, 0, none⟩ (.int .i64 lw)).setCell ⟨b8, 0, none⟩ (.bool true)) := by
  have lt := h.lt
  have lo := h.h.lo
  refine ⟨((h.h.put hb ho).set (by omega) (by omega) h.f7 (by omega) _).set (by omega) (by omega) h.f8 (by omega) _, ?_, ?_, ?_, ?_, h.f7, h.f8, lt⟩
  · exact (((h.k2.callB hb).other (by show b6 ≠ b2; omega) _).other (by show b7 ≠ b2; omega) _).other (by show b8 ≠ b2; omega) _
  · exact (((h.k3.callB hb).other (by show b6 ≠ b3; omega) _).other (by show b7 ≠ b3; omega) _).other (by show b8 ≠ b3; omega) _
  · exact (((h.k7.callB hb).other (by show b6 ≠ b7; omega) _).set 0 _).other (by show b8 ≠ b7; omega) _
  · exact (((h.k8.callB hb).other (by show b6 ≠ b8; omega) _).other (by show b7 ≠ b8; omega) _).set 0 _
end
theorem Own.set_ne {α : Type} [Rep α] {B : Nat} {φ : Phi} {w : World} {E : TypeId} {g cap : Nat} {xs : List α} (h : Own B φ w E (some ⟨g, 0, none⟩) cap xs) {b k : Nat} {v : Value} (hne : g ≠ b) : Own B φ (w.setCell ⟨b, k, none⟩ v) E (some ⟨g, 0, none⟩) cap xs :=
  h.other (grown_set _ _ _ _) (fun y hy e => by cases hy; have e2 : g = b := Option.some.inj e; exact hne e2)
def ApPostN (fs : List Fld) (xs : List Int) (k : Nat) (W : Int) (φ : Phi) (w : World) (e : Ending) (w' : World) : Prop :=
  ∃ a cap, e = .returned (.tuple #[.slice a k cap, .int .i64 W]) ∧ Inv w.heap.size w φ φ w' ∧ Own w.heap.size φ w' 3 a cap xs
theorem ApPost.toN {fs : List Fld} {xs : List Int} {k : Nat} {W : Int} {φ : Phi} {w : World} {e : Ending} {w' : World} (hk : xs.length = k) (hW : wSum fs xs = W) (h : ApPost fs xs φ w e w') : ApPostN fs xs k W φ w e w' := by subst hk; subst hW; exact h
theorem OwnPost.toN {xs : List Int} {k : Nat} {φ : Phi} {w : World} {e : Ending} {w' : World} (hk : xs.length = k) (h : OwnPost xs φ w e w') : OwnPostN k xs φ w e w' := by subst hk; exact h
set_option maxHeartbeats 4000000 in
theorem leastC_any
  {φ : Phi} {br : Nat} {fs : List Fld} {es : List Edt} {n m : Nat} {a : Option Addr} {cap : Nat} {ae : Option Addr} {ce : Nat} {ab : Option Addr} {cb : Nat} (R : RulV φ br fs es n m a cap ae ce ab cb)
    {B : Nat} {w0 : World} {b2 b3 b6 b7 b8 g c : Nat} {a3 : Option Addr} {c3 : Nat} {rec : List Int} (sr : SlV φ a3 c3 rec) (hrl : Hid (rec.length = n)) (x : List Int) (s : LSt) (w : World) (hx : Hid (x.length = n)) (hJ : LeJ B w0 br (.slice a3 n c3) b2 b3 b6 b7 b8 g φ s w) (hO : Own B φ w 3 (some ⟨g, 0, none⟩) c x) :
    Calls Tryd.prog 77 #[.slice (some ⟨g, 0, none⟩) n c, .pointer (some ⟨b2, 0, none⟩), .pointer (some ⟨b3, 0, none⟩), .pointer (some ⟨b8, 0, none⟩), .pointer (some ⟨b7, 0, none⟩), .pointer (some ⟨b6, 0, none⟩)] w (VisPost (LeJ B w0 br (.slice a3 n c3) b2 b3 b6 b7 b8 g φ) B φ g c x (leastV fs es n m rec x s)) := by
  have hn12 := R.ok.pos
  obtain ⟨φx, hle, hix, sx, _⟩ := hO.release hJ.h.inv
  have Rx := R.mono hle
  have srx := sr.mono hle
  have hfx := Lib.hid hix.fz
  obtain ⟨φ3, a6, c6, l3, z3, n3, s3, k6⟩ := hJ.h.ex
  have Z3 := Lib.hid z3
  obtain ⟨L, hL⟩ : ∃ L, Hid (apL rec x n = L) := ⟨_, Lib.hid rfl⟩
  obtain ⟨W, hW⟩ : ∃ W, Hid (wSum fs L = W) := ⟨_, Lib.hid rfl⟩
  obtain ⟨nL, hnL⟩ : ∃ k, Hid (L.length = k) := ⟨_, Lib.hid rfl⟩
  obtain ⟨b, lw, fo⟩ := s
  dsimp only at s3 k6
  obtain ⟨nb, hnb⟩ : ∃ k, Hid (b.length = k) := ⟨_, Lib.hid rfl⟩
  obtain ⟨q, hq⟩ : ∃ k, Hid (cmpI L b = k) := ⟨_, Lib.hid rfl⟩
  obtain ⟨nf, hnf⟩ : ∃ k, Hid ((failL es x n m).length = k) := ⟨_, Lib.hid rfl⟩
  have hv : Hid (leastV fs es n m rec x (b, lw, fo) = _) := Lib.hid (leastV_eq (s := (b, lw, fo)) hL.out hW.out hnL.out hnb.out hq.out hnf.out)
  dsimp only at hv
  have hnLb : nL ≤ n := by have := apL_len rec x n; rw [hL.out, hnL.out] at this; exact this
  have hbb := s3.capn
  have hbm := s3.capm
  rw [hnb.out] at hbb k6
  unfold maxLen at hbm
  have JH := Lib.hid hJ
  have OH := Lib.hid hO
  have K6 := Lib.hid k6
  have d1 : w.cell? ⟨b2, 0, none⟩ = some (.pointer (some ⟨br, 0, none⟩)) := hJ.k2.cell 0
  have d2 : w.cell? ⟨b3, 0, none⟩ = some (.slice a3 n c3) := hJ.k3.cell 0
  clear hJ hO hle hix z3 n3 l3 k6
  go_enter Tryd.func77, Tryd.ntmps77
  go_wp2_with fail
  refine ((apart_any Rx w hfx.out a3 c3 rec srx hrl _ c x sx hx).mono (fun e w' h => ApPost.toN (k := nL) (W := W) (by rw [hL.out]; exact hnL.out) (by rw [hL.out]; exact hW.out) h)).mono ?_
  rintro e w1 ⟨aL, cL, rfl, hi1, ho1⟩
  rw [hL.out] at ho1
  obtain ⟨φL, lL, hiL, sL, _⟩ := ho1.release hi1
  have HL := Lib.hid hiL.fz
  have HO1 := Lib.hid ho1
  have HI1 := Lib.hid hi1
  have J1 := JH.out.callB hi1.bel
  have e2 : w1.cell? ⟨b2, 0, none⟩ = some (.pointer (some ⟨br, 0, none⟩)) := J1.k2.cell 0
  have e6 : w1.cell? ⟨b6, 0, none⟩ = some (.slice a6 nb c6) := (K6.out.callB hi1.bel).cell 0
  have e7 : w1.cell? ⟨b7, 0, none⟩ = some (.int .i64 lw) := J1.k7.cell 0
  have e8 : w1.cell? ⟨b8, 0, none⟩ = some (.bool fo) := J1.k8.cell 0
  have Z31 := Lib.hid (Z3.out.below hi1.bel)
  have FX1 := Lib.hid (hfx.out.below hi1.bel)
  clear hiL lL ho1 hi1 J1 d1 d2
  cases fo
  case false =>
    go_wp2_with (first
      | (go_at_call 79; (refine (Compare_any _ aL cL L _ a6 c6 b w1 φL φ3 HL.out Z31.out sL hnL (by omega) s3 hnb (by omega) hq).mono ?_; rintro e w' ⟨rfl, rfl⟩))
      | (go_at_call 31; (refine ((fails_any Rx w1 FX1.out _ c x sx hx).mono (fun e w' h => OwnPost.toN (k := nf) hnf.out h)).mono ?_; rintro e w2 ⟨aF, cF, rfl, hi2, ho2⟩; have hb2 := Lib.hid (HI1.out.bel.trans (hi2.bel.mono HI1.out.bel.size)); have HO2 := Lib.hid (HO1.out.callB hi2.bel); have J2 := JH.out.callB hb2.out; have k6' := (K6.out.callB hb2.out).cell 0; have q7 := (J2.k7.other (by show b6 ≠ b7; have := J2.lt; omega) (.slice aL nL cL) : Blk (w2.setCell ⟨b6, 0, none⟩ (.slice aL nL cL)) b7 _ _); have q8 := ((J2.k8.other (by show b6 ≠ b8; have := J2.lt; omega) (.slice aL nL cL)).other (by show b7 ≠ b8; have := J2.lt; omega) (.int .i64 W) : Blk ((w2.setCell ⟨b6, 0, none⟩ (.slice aL nL cL)).setCell ⟨b7, 0, none⟩ (.int .i64 W)) b8 _ _); have k7' := q7.cell 0; have k8' := q8.cell 0; have k6f : w2.frozen? ⟨b6, 0, none⟩ = false := (K6.out.callB hb2.out).frz 0; have k7f := q7.frz 0; have k8f := q8.frz 0; clear q7 q8; clear hi2 ho2 J2)))
    all_goals
      go_ret
      first
        | (have h0 : ((nf : Int) == 0) = true := by assumption
           have h1 : nf = 0 := by have h2 := eq_of_beq h0; omega
           rw [hv.out, if_pos (And.intro (by first | exact .inl rfl | exact .inl trivial | (right; omega) | (right; simp only [true_and]; omega)) h1)]
           have P := Lib.hid (JH.out.put hb2.out HO2.out W)
           rw [hnL.out] at P
           have lt := JH.out.lt
           exact ⟨rfl, P.out, (((OH.out.callB hb2.out).set_ne (by omega)).set_ne (by omega)).set_ne (by omega)⟩)
        | (rw [hv.out, if_neg (fun h => by
             have h' : ((nf : Int) == 0) = false := by assumption
             rw [h.2] at h'
             simp at h')]
           exact ⟨rfl, JH.out.callB hb2.out, OH.out.callB hb2.out⟩)
        | (rw [hv.out, if_neg (fun h => by
             rcases h.1 with h0 | h0
             · cases h0
             · first | omega | (simp only [true_and] at h0; omega))]
           exact ⟨rfl, JH.out.callB HI1.out.bel, OH.out.callB HI1.out.bel⟩)
  case true =>
    by_cases e1 : W = lw
    · subst e1
      by_cases e2 : nL = nb
      · subst e2
        go_wp2_with (first
          | (go_at_call 79; (refine (Compare_any _ aL cL L _ a6 c6 b w1 φL φ3 HL.out Z31.out sL hnL (by omega) s3 hnb (by omega) hq).mono ?_; rintro e w' ⟨rfl, rfl⟩))
          | (go_at_call 31; (refine ((fails_any Rx w1 FX1.out _ c x sx hx).mono (fun e w' h => OwnPost.toN (k := nf) hnf.out h)).mono ?_; rintro e w2 ⟨aF, cF, rfl, hi2, ho2⟩; have hb2 := Lib.hid (HI1.out.bel.trans (hi2.bel.mono HI1.out.bel.size)); have HO2 := Lib.hid (HO1.out.callB hi2.bel); have J2 := JH.out.callB hb2.out; have k6' := (K6.out.callB hb2.out).cell 0; have q7 := (J2.k7.other (by show b6 ≠ b7; have := J2.lt; omega) (.slice aL nL cL) : Blk (w2.setCell ⟨b6, 0, none⟩ (.slice aL nL cL)) b7 _ _); have q8 := ((J2.k8.other (by show b6 ≠ b8; have := J2.lt; omega) (.slice aL nL cL)).other (by show b7 ≠ b8; have := J2.lt; omega) (.int .i64 W) : Blk ((w2.setCell ⟨b6, 0, none⟩ (.slice aL nL cL)).setCell ⟨b7, 0, none⟩ (.int .i64 W)) b8 _ _); have k7' := q7.cell 0; have k8' := q8.cell 0; have k6f : w2.frozen? ⟨b6, 0, none⟩ = false := (K6.out.callB hb2.out).frz 0; have k7f := q7.frz 0; have k8f := q8.frz 0; clear q7 q8; clear hi2 ho2 J2)))
        all_goals
          go_ret
          first
            | (have h0 : ((nf : Int) == 0) = true := by assumption
               have h1 : nf = 0 := by have h2 := eq_of_beq h0; omega
               rw [hv.out, if_pos (And.intro (by first | exact .inl rfl | exact .inl trivial | (right; omega) | (right; simp only [true_and]; omega)) h1)]
               have P := Lib.hid (JH.out.put hb2.out HO2.out W)
               rw [hnL.out] at P
               have lt := JH.out.lt
               exact ⟨rfl, P.out, (((OH.out.callB hb2.out).set_ne (by omega)).set_ne (by omega)).set_ne (by omega)⟩)
            | (rw [hv.out, if_neg (fun h => by
                 have h' : ((nf : Int) == 0) = false := by assumption
                 rw [h.2] at h'
                 simp at h')]
               exact ⟨rfl, JH.out.callB hb2.out, OH.out.callB hb2.out⟩)
            | (rw [hv.out, if_neg (fun h => by
                 rcases h.1 with h0 | h0
                 · cases h0
                 · first | omega | (simp only [true_and] at h0; omega))]
               exact ⟨rfl, JH.out.callB HI1.out.bel, OH.out.callB HI1.out.bel⟩)
      · have e3 : ((nL : Int) == nb) = false := by simp; omega
        go_wp2_with (first
          | (go_at_call 79; (refine (Compare_any _ aL cL L _ a6 c6 b w1 φL φ3 HL.out Z31.out sL hnL (by omega) s3 hnb (by omega) hq).mono ?_; rintro e w' ⟨rfl, rfl⟩))
          | (go_at_call 31; (refine ((fails_any Rx w1 FX1.out _ c x sx hx).mono (fun e w' h => OwnPost.toN (k := nf) hnf.out h)).mono ?_; rintro e w2 ⟨aF, cF, rfl, hi2, ho2⟩; have hb2 := Lib.hid (HI1.out.bel.trans (hi2.bel.mono HI1.out.bel.size)); have HO2 := Lib.hid (HO1.out.callB hi2.bel); have J2 := JH.out.callB hb2.out; have k6' := (K6.out.callB hb2.out).cell 0; have q7 := (J2.k7.other (by show b6 ≠ b7; have := J2.lt; omega) (.slice aL nL cL) : Blk (w2.setCell ⟨b6, 0, none⟩ (.slice aL nL cL)) b7 _ _); have q8 := ((J2.k8.other (by show b6 ≠ b8; have := J2.lt; omega) (.slice aL nL cL)).other (by show b7 ≠ b8; have := J2.lt; omega) (.int .i64 W) : Blk ((w2.setCell ⟨b6, 0, none⟩ (.slice aL nL cL)).setCell ⟨b7, 0, none⟩ (.int .i64 W)) b8 _ _); have k7' := q7.cell 0; have k8' := q8.cell 0; have k6f : w2.frozen? ⟨b6, 0, none⟩ = false := (K6.out.callB hb2.out).frz 0; have k7f := q7.frz 0; have k8f := q8.frz 0; clear q7 q8; clear hi2 ho2 J2)))
        all_goals
          go_ret
          first
            | (have h0 : ((nf : Int) == 0) = true := by assumption
               have h1 : nf = 0 := by have h2 := eq_of_beq h0; omega
               rw [hv.out, if_pos (And.intro (by first | exact .inl rfl | exact .inl trivial | (right; omega) | (right; simp only [true_and]; omega)) h1)]
               have P := Lib.hid (JH.out.put hb2.out HO2.out W)
               rw [hnL.out] at P
               have lt := JH.out.lt
               exact ⟨rfl, P.out, (((OH.out.callB hb2.out).set_ne (by omega)).set_ne (by omega)).set_ne (by omega)⟩)
            | (rw [hv.out, if_neg (fun h => by
                 have h' : ((nf : Int) == 0) = false := by assumption
                 rw [h.2] at h'
                 simp at h')]
               exact ⟨rfl, JH.out.callB hb2.out, OH.out.callB hb2.out⟩)
            | (rw [hv.out, if_neg (fun h => by
                 rcases h.1 with h0 | h0
                 · cases h0
                 · first | omega | (simp only [true_and] at h0; omega))]
               exact ⟨rfl, JH.out.callB HI1.out.bel, OH.out.callB HI1.out.bel⟩)
    · have e3 : (W == lw) = false := by simp [e1]
      go_wp2_with (first
        | (go_at_call 79; (refine (Compare_any _ aL cL L _ a6 c6 b w1 φL φ3 HL.out Z31.out sL hnL (by omega) s3 hnb (by omega) hq).mono ?_; rintro e w' ⟨rfl, rfl⟩))
        | (go_at_call 31; (refine ((fails_any Rx w1 FX1.out _ c x sx hx).mono (fun e w' h => OwnPost.toN (k := nf) hnf.out h)).mono ?_; rintro e w2 ⟨aF, cF, rfl, hi2, ho2⟩; have hb2 := Lib.hid (HI1.out.bel.trans (hi2.bel.mono HI1.out.bel.size)); have HO2 := Lib.hid (HO1.out.callB hi2.bel); have J2 := JH.out.callB hb2.out; have k6' := (K6.out.callB hb2.out).cell 0; have q7 := (J2.k7.other (by show b6 ≠ b7; have := J2.lt; omega) (.slice aL nL cL) : Blk (w2.setCell ⟨b6, 0, none⟩ (.slice aL nL cL)) b7 _ _); have q8 := ((J2.k8.other (by show b6 ≠ b8; have := J2.lt; omega) (.slice aL nL cL)).other (by show b7 ≠ b8; have := J2.lt; omega) (.int .i64 W) : Blk ((w2.setCell ⟨b6, 0, none⟩ (.slice aL nL cL)).setCell ⟨b7, 0, none⟩ (.int .i64 W)) b8 _ _); have k7' := q7.cell 0; have k8' := q8.cell 0; have k6f : w2.frozen? ⟨b6, 0, none⟩ = false := (K6.out.callB hb2.out).frz 0; have k7f := q7.frz 0; have k8f := q8.frz 0; clear q7 q8; clear hi2 ho2 J2)))
      all_goals
        go_ret
        first
          | (have h0 : ((nf : Int) == 0) = true := by assumption
             have h1 : nf = 0 := by have h2 := eq_of_beq h0; omega
             rw [hv.out, if_pos (And.intro (by first | exact .inl rfl | exact .inl trivial | (right; omega) | (right; simp only [true_and]; omega)) h1)]
             have P := Lib.hid (JH.out.put hb2.out HO2.out W)
             rw [hnL.out] at P
             have lt := JH.out.lt
             exact ⟨rfl, P.out, (((OH.out.callB hb2.out).set_ne (by omega)).set_ne (by omega)).set_ne (by omega)⟩)
          | (rw [hv.out, if_neg (fun h => by
               have h' : ((nf : Int) == 0) = false := by assumption
               rw [h.2] at h'
               simp at h')]
             exact ⟨rfl, JH.out.callB hb2.out, OH.out.callB hb2.out⟩)
          | (rw [hv.out, if_neg (fun h => by
               rcases h.1 with h0 | h0
               · cases h0
               · first | omega | (simp only [true_and] at h0; omega))]
             exact ⟨rfl, JH.out.callB HI1.out.bel, OH.out.callB HI1.out.bel⟩)
end Go.Proofs.YtambgcijceecpaaDoor

namespace Go.Proofs.YtambgcijceecpaaDoor
open Go.RowKit
set_option linter.unusedVariables false
theorem Blk.newAt (w : World) (cs : Array Value) (T : TypeId) {k : Nat} (h : w.heap.size = k) : Blk (w.alloc (.cells cs T)) k cs T := by subst h; exact Blk.new w cs T
/-- φ' is φ, and more from block B on. -/
def SubP (B : Nat) (φ φ' : Phi) : Prop := φ.le φ' ∧ ∀ b, b < B → φ' b = φ b
theorem Inv.sub2 {B : Nat} {w0 w : World} {φ0 φ1 φ2 : Phi} (k : Inv B w0 φ1 φ2 w) (h : SubP B φ0 φ1) : Inv B w0 φ0 φ2 w := ⟨k.bel, k.base, k.fz, h.1.trans k.le, fun b hb => (k.new b hb).trans (h.2 b hb)⟩
def SlBPost (l : List Int) (b : Bool) (φ : Phi) (w : World) (e : Ending) (w' : World) : Prop :=
  ∃ φ' a cap, e = .returned (.tuple #[.slice a l.length cap, .bool b]) ∧ Inv w.heap.size w φ φ' w' ∧ SlV φ' a cap l
set_option maxHeartbeats 1000000 in
theorem least_any
  {φ : Phi} {br : Nat} {fs : List Fld} {es : List Edt} {n m : Nat} {a : Option Addr} {cap : Nat} {ae : Option Addr} {ce : Nat} {ab : Option Addr} {cb : Nat} (R : RulV φ br fs es n m a cap ae ce ab cb)
    (w : World) (hφ : Fz φ w) (a1 : Option Addr) (c1 : Nat) (rec : List Int) (sr : SlV φ a1 c1 rec) (hrl : Hid (rec.length = n)) {l : List Int} {lw : Int} {fo b : Bool} (hq : Hid (leastS fs es n m rec = ((l, lw, fo), b))) :
    Calls Tryd.prog 46 #[.pointer (some ⟨br, 0, none⟩), .slice a1 n c1] w (SlBPost l fo φ w) := by
  have hn12 := R.ok.pos
  have hq' : Hid (foldU (leastV fs es n m rec) (comps fs (List.replicate n true) n 0 (List.replicate n 0)) ([], 0, false) = ((l, lw, fo), b)) := hq
  go_enter Tryd.func46, Tryd.ntmps46
  go_wp2_with fail
  have K2 := Lib.hid (((((Blk.newAt w #[.pointer (some ⟨br, 0, none⟩)] 54 rfl).alloc (.cells #[.slice a1 n c1] 26)).alloc (.cells #[.slice none 0 0] 26)).alloc (.cells #[.int .i64 0] 3)).alloc (.cells #[.bool false] 4))
  have K3 := Lib.hid ((((Blk.newAt (w.alloc (.cells #[.pointer (some ⟨br, 0, none⟩)] 54)) #[.slice a1 n c1] 26 (alloc_size _ _)).alloc (.cells #[.slice none 0 0] 26)).alloc (.cells #[.int .i64 0] 3)).alloc (.cells #[.bool false] 4))
  have K6 := Lib.hid (((Blk.newAt ((w.alloc (.cells #[.pointer (some ⟨br, 0, none⟩)] 54)).alloc (.cells #[.slice a1 n c1] 26)) #[.slice none 0 0] 26 (k := w.heap.size + 1 + 1) (by simp)).alloc (.cells #[.int .i64 0] 3)).alloc (.cells #[.bool false] 4))
  have K7 := Lib.hid ((Blk.newAt (((w.alloc (.cells #[.pointer (some ⟨br, 0, none⟩)] 54)).alloc (.cells #[.slice a1 n c1] 26)).alloc (.cells #[.slice none 0 0] 26)) #[.int .i64 0] 3 (k := w.heap.size + 1 + 1 + 1) (by simp)).alloc (.cells #[.bool false] 4))
  have K8 := Lib.hid (Blk.newAt ((((w.alloc (.cells #[.pointer (some ⟨br, 0, none⟩)] 54)).alloc (.cells #[.slice a1 n c1] 26)).alloc (.cells #[.slice none 0 0] 26)).alloc (.cells #[.int .i64 0] 3)) #[.bool false] 4 (k := w.heap.size + 1 + 1 + 1 + 1) (by simp))
  have HI := Lib.hid ((((((Inv.start hφ).alloc (.cells #[.pointer (some ⟨br, 0, none⟩)] 54)).alloc (.cells #[.slice a1 n c1] 26)).alloc (.cells #[.slice none 0 0] 26)).alloc (.cells #[.int .i64 0] 3)).alloc (.cells #[.bool false] 4))
  have HN := Lib.hid (fun b (h : w.heap.size ≤ b) => hφ.new_none h)
  generalize ((((w.alloc (.cells #[.pointer (some ⟨br, 0, none⟩)] 54)).alloc (.cells #[.slice a1 n c1] 26)).alloc (.cells #[.slice none 0 0] 26)).alloc (.cells #[.int .i64 0] 3)).alloc (.cells #[.bool false] 4) = W at *
  have hWs := Lib.hid K8.out.lt
  generalize hb2 : w.heap.size = b2 at *
  have l3 : b2 + 1 < b2 + 1 + 1 := by omega
  generalize hb3 : b2 + 1 = b3 at *
  generalize hb6 : b3 + 1 = b6 at *
  generalize hb7 : b6 + 1 = b7 at *
  generalize hb8 : b7 + 1 = b8 at *
  have hlt : Hid (b2 < b3 ∧ b3 < b6 ∧ b6 < b7 ∧ b7 < b8) := Lib.hid (by omega)
  replace hb2 := Lib.hid hb2
  clear hb3 hb6 hb7 hb8 l3
  have HL := Lib.hid hq'.out
  refine (all_least R (J := fun g φ2 s w' => LeJ b2 w br (.slice a1 n c1) b2 b3 b6 b7 b8 g φ2 s w' ∧ SubP b2 φ φ2) (V := leastV fs es n m rec) (B := b2) (w0 := w) W ([], 0, false) HI.out.size HI.out.fz ?h0 (fun g φ2 s w h => h.1.h.inv) (fun g φ2 s w k v h => ⟨h.1.row k v, h.2⟩) ?hV hq').mono ?_
  case h0 =>
    intro g φ2 w' hle hi hg hgl hgn
    have lt := hlt.out
    have ws := hWs.out
    have hn : ∀ b, b2 ≤ b → b < W.heap.size → φ2 b = none := fun b h1 h2 => (hi.new b h2).trans (HN.out b h1)
    have hb : ∀ {b cs T}, Blk W b cs T → Blk w' b cs T := fun h => h.callB hi.bel
    exact ⟨⟨HoldS.start ((HI.out.call hi).toSelf) (hb K6.out) hgn (hn b6 (by omega) (by omega)) (by omega) (by omega) hgl, hb K2.out, hb K3.out, hb K7.out, hb K8.out, hn b7 (by omega) (by omega), hn b8 (by omega) ws, by omega⟩, hle, fun b hb => hi.new b (by omega)⟩
  case hV =>
    intro g c φ2 hle x s w' hx hJ hO
    refine (leastC_any (R.mono hle) (sr.mono hle) hrl x s w' hx hJ.1 hO).mono ?_
    rintro e w2 ⟨h1, h2, h3⟩
    exact ⟨h1, ⟨h2, hJ.2⟩, h3⟩
  rintro e w6 ⟨rfl, g, φ2, _, hJ, hle⟩
  obtain ⟨φ3, a6, c6, l6, hi6, s6, k6⟩ := hJ.h.out
  have hI6 := Lib.hid (hi6.sub2 hle)
  have y1 : w6.cell? ⟨b6, 0, none⟩ = some (.slice a6 l.length c6) := k6.cell 0
  have y2 : w6.cell? ⟨b8, 0, none⟩ = some (.bool fo) := hJ.k8.cell 0
  clear hJ k6 hi6 hle l6 hq hq' HL
  go_wp2
  go_quiet (fail)
  go_wp2
  go_ret2
  exact ⟨φ3, a6, c6, rfl, by rw [hb2.out]; exact hI6.out.drewN _, s6⟩
end Go.Proofs.YtambgcijceecpaaDoor

namespace Go.Proofs.YtambgcijceecpaaDoor
open Go.RowKit
set_option linter.unusedVariables false
/-- The fault of a plan and a record. -/
noncomputable def withF (fs : List Fld) (es : List Edt) (rec : List Int) : Int := if planF fs es ≠ 0 then planF fs es else recF fs.length rec
def WithB (fs : List Fld) (es : List Edt) (rec : List Int) (F : Int) (φ : Phi) (w : World) (e : Ending) (w' : World) : Prop :=
  ∃ φ' p, e = .returned (.tuple #[p, .int .i64 F]) ∧ Inv w.heap.size w φ φ' w' ∧ (F = 0 → ∃ br a cap ae ce ab cb, p = .pointer (some ⟨br, 0, none⟩) ∧ RulV φ' br fs es fs.length es.length a cap ae ce ab cb)
theorem with_f
  (n : Nat) (a : Option Addr) (cap : Nat) (fs : List Fld) (m : Nat) (ae : Option Addr) (ce : Nat) (es : List Edt) (w : World) (φ : Phi) (hφ : Fz φ w) (s : SlV φ a cap fs) (hn : Hid (fs.length = n)) (hm : n ≤ 9223372036854775807) (hg : Hid (∀ x ∈ fs, FldG x)) (se : SlV φ ae ce es) (hne : Hid (es.length = m)) (hme : m ≤ 9223372036854775807) (hge : Hid (∀ x ∈ es, EdtG x))
      (nr : Nat) (a2 : Option Addr) (c2 : Nat) (rec : List Int) (sr : SlV φ a2 c2 rec) (hrl : Hid (rec.length = nr)) (hmr : nr ≤ 9223372036854775807)
    {F : Int} (hF : Hid (withF fs es rec = F)) :
    Calls Tryd.prog 30 #[.agg #[.slice a n cap, .slice ae m ce], .slice a2 nr c2] w (WithB fs es rec F φ w) := by
  refine (with_any n a cap fs m ae ce es w φ hφ s hn hm hg se hne hme hge nr a2 c2 rec sr hrl hmr).mono ?_
  rintro e w1 ⟨φ1, hi, ⟨hp, rfl⟩ | ⟨hp, br, rfl, hR⟩⟩
  · refine ⟨φ1, .pointer none, ?_, hi, fun h0 => ?_⟩
    · rw [← hF.out, withF, if_pos hp]
    · rw [← hF.out, withF, if_pos hp] at h0; exact absurd h0 hp
  · refine ⟨φ1, .pointer (some ⟨br, 0, none⟩), ?_, hi, fun h0 => ?_⟩
    · rw [← hF.out, withF, if_neg (fun h => h hp)]
    · obtain ⟨a', cap', ae', ce', ab', cb', hV⟩ := hR.open_ hp rfl rfl
      exact ⟨br, a', cap', ae', ce', ab', cb', rfl, hV⟩
theorem recF_len {n : Nat} {rec : List Int} (h : recF n rec = 0) : rec.length = n := by
  unfold recF at h
  split at h
  · cases h
  · next h1 => omega
theorem withF_zero {fs : List Fld} {es : List Edt} {rec : List Int} (h : withF fs es rec = 0) : planF fs es = 0 ∧ rec.length = fs.length := by
  unfold withF at h
  split at h
  · next h1 => exact absurd h h1
  · next h1 => exact ⟨by simpa using h1, recF_len h⟩
def PassPost (b : Bool) (F : Int) (w : World) (e : Ending) (w' : World) : Prop := e = .returned (.tuple #[.bool b, .int .i64 F]) ∧ Below w.heap.size w w'
def passR (fs : List Fld) (es : List Edt) (rec : List Int) (F : Int) : Bool := if F = 0 then passB fs es rec fs.length es.length else false
theorem Passes_any
  (n : Nat) (a : Option Addr) (cap : Nat) (fs : List Fld) (m : Nat) (ae : Option Addr) (ce : Nat) (es : List Edt) (w : World) (φ : Phi) (hφ : Fz φ w) (s : SlV φ a cap fs) (hn : Hid (fs.length = n)) (hm : n ≤ 9223372036854775807) (hg : Hid (∀ x ∈ fs, FldG x)) (se : SlV φ ae ce es) (hne : Hid (es.length = m)) (hme : m ≤ 9223372036854775807) (hge : Hid (∀ x ∈ es, EdtG x))
      (nr : Nat) (a2 : Option Addr) (c2 : Nat) (rec : List Int) (sr : SlV φ a2 c2 rec) (hrl : Hid (rec.length = nr)) (hmr : nr ≤ 9223372036854775807)
    {F : Int} (hF : Hid (withF fs es rec = F)) {b : Bool} (hb : Hid (passR fs es rec F = b)) :
    Calls Tryd.prog 12 #[.agg #[.slice a n cap, .slice ae m ce], .slice a2 nr c2] w (PassPost b F w) := by
  have hi0 := Lib.hid ((Inv.start hφ).alloc (.cells #[.slice a n cap, .slice ae m ce] 25))
  go_enter Tryd.func12, Tryd.ntmps12
  go_wp2_with fail
  refine (with_f n a cap fs m ae ce es _ φ (hφ.alloc _) s hn hm hg se hne hme hge nr a2 c2 rec sr hrl hmr hF).mono ?_
  rintro e w1 ⟨φ1, p, rfl, hi1, hR⟩
  have HI := Lib.hid (hi0.out.call hi1)
  have HR := Lib.hid hR
  clear hi1 hi0 hR
  by_cases hf : F = 0
  · obtain ⟨br, a', cap', ae', ce', ab', cb', rfl, hV⟩ := HR.out hf
    obtain ⟨hp, hl⟩ := withF_zero (hF.out.trans hf)
    have hb' : Hid (passB fs es rec fs.length es.length = b) := Lib.hid (by rw [← hb.out, passR, if_pos hf])
    have hl2 : Hid (rec.length = fs.length) := Lib.hid hl
    obtain rfl : fs.length = nr := by rw [← hrl.out, hl]
    have srr := sr.mono HI.out.le
    have HF := Lib.hid hf
    have hff : (F != 0) = false := by simp [hf]
    clear hf hp hl HR
    go_wp2_with (go_at_call 34; refine (passes_any hV w1 HI.out.fz a2 c2 rec srr hl2 hb').mono ?_; rintro e w' ⟨rfl, hb5⟩)
    go_ret2
    obtain rfl := HF.out
    exact ⟨rfl, HI.out.bel.trans (hb5.mono HI.out.size)⟩
  · have hff : (F != 0) = true := by simp [hf]
    have HF := Lib.hid hf
    have hb' : Hid (false = b) := Lib.hid (by rw [← hb.out, passR, if_neg hf])
    clear hf
    go_wp2
    go_ret2
    obtain rfl := hb'.out
    exact ⟨rfl, HI.out.bel⟩
def SlFPost (l : List Int) (F : Int) (φ : Phi) (w : World) (e : Ending) (w' : World) : Prop :=
  ∃ φ' a cap, e = .returned (.tuple #[.slice a l.length cap, .int .i64 F]) ∧ Inv w.heap.size w φ φ' w' ∧ SlV φ' a cap l
def leastR (fs : List Fld) (es : List Edt) (rec : List Int) (F : Int) : List Int × Int :=
  if F = 0 then (if (leastS fs es fs.length es.length rec).1.2.2 = true then ((leastS fs es fs.length es.length rec).1.1, 0) else ([], 9)) else ([], F)
theorem Least_any
  (n : Nat) (a : Option Addr) (cap : Nat) (fs : List Fld) (m : Nat) (ae : Option Addr) (ce : Nat) (es : List Edt) (w : World) (φ : Phi) (hφ : Fz φ w) (s : SlV φ a cap fs) (hn : Hid (fs.length = n)) (hm : n ≤ 9223372036854775807) (hg : Hid (∀ x ∈ fs, FldG x)) (se : SlV φ ae ce es) (hne : Hid (es.length = m)) (hme : m ≤ 9223372036854775807) (hge : Hid (∀ x ∈ es, EdtG x))
      (nr : Nat) (a2 : Option Addr) (c2 : Nat) (rec : List Int) (sr : SlV φ a2 c2 rec) (hrl : Hid (rec.length = nr)) (hmr : nr ≤ 9223372036854775807)
    {F : Int} (hF : Hid (withF fs es rec = F)) {l : List Int} {G : Int} (hb : Hid (leastR fs es rec F = (l, G))) :
    Calls Tryd.prog 20 #[.agg #[.slice a n cap, .slice ae m ce], .slice a2 nr c2] w (SlFPost l G φ w) := by
  have hi0 := Lib.hid ((Inv.start hφ).alloc (.cells #[.slice a n cap, .slice ae m ce] 25))
  go_enter Tryd.func20, Tryd.ntmps20
  go_wp2_with fail
  refine (with_f n a cap fs m ae ce es _ φ (hφ.alloc _) s hn hm hg se hne hme hge nr a2 c2 rec sr hrl hmr hF).mono ?_
  rintro e w1 ⟨φ1, p, rfl, hi1, hR⟩
  have HI := Lib.hid (hi0.out.call hi1)
  have HR := Lib.hid hR
  clear hi1 hi0 hR
  by_cases hf : F = 0
  · obtain ⟨br, a', cap', ae', ce', ab', cb', rfl, hV⟩ := HR.out hf
    obtain ⟨hp, hl⟩ := withF_zero (hF.out.trans hf)
    obtain ⟨q, hq⟩ : ∃ q, Hid (leastS fs es fs.length es.length rec = q) := ⟨_, Lib.hid rfl⟩
    obtain ⟨⟨bl, lw, fo⟩, bb⟩ := q
    have hb' : Hid ((if fo = true then (bl, 0) else ([], 9)) = (l, G)) := Lib.hid (by rw [← hb.out, leastR, if_pos hf, hq.out])
    have hl2 : Hid (rec.length = fs.length) := Lib.hid hl
    obtain rfl : fs.length = nr := by rw [← hrl.out, hl]
    have srr := sr.mono HI.out.le
    have hff : (F != 0) = false := by simp [hf]
    clear hf hp hl HR
    cases fo
    · go_wp2_with (go_at_call 46; refine (least_any hV w1 HI.out.fz a2 c2 rec srr hl2 hq).mono ?_; rintro e w' ⟨φ2, a5, c5, rfl, hi5, hs5⟩)
      go_ret2
      have h := hb'.out
      simp at h
      obtain ⟨rfl, rfl⟩ := h
      exact ⟨φ2, none, 0, rfl, HI.out.call hi5, SlV.empty _⟩
    · go_wp2_with (go_at_call 46; refine (least_any hV w1 HI.out.fz a2 c2 rec srr hl2 hq).mono ?_; rintro e w' ⟨φ2, a5, c5, rfl, hi5, hs5⟩)
      go_ret2
      have h := hb'.out
      simp at h
      obtain ⟨rfl, rfl⟩ := h
      exact ⟨φ2, a5, c5, rfl, HI.out.call hi5, hs5⟩
  · have hff : (F != 0) = true := by simp [hf]
    have HF := Lib.hid hf
    have hb' : Hid (([], F) = (l, G)) := Lib.hid (by rw [← hb.out, leastR, if_neg hf])
    clear hf
    go_wp2
    go_ret2
    obtain ⟨rfl, rfl⟩ := Prod.mk.inj hb'.out
    exact ⟨φ1, none, 0, rfl, HI.out, SlV.empty _⟩
def SlBFPost (l : List Int) (b : Bool) (F : Int) (φ : Phi) (w : World) (e : Ending) (w' : World) : Prop :=
  ∃ φ' a cap, e = .returned (.tuple #[.slice a l.length cap, .bool b, .int .i64 F]) ∧ Inv w.heap.size w φ φ' w' ∧ SlV φ' a cap l
def firstF (fs : List Fld) (rec free : List Int) (F : Int) : Int := if F = 0 then freeF fs.length free else F
def firstR (fs : List Fld) (es : List Edt) (rec free : List Int) (F : Int) : List Int × Bool := if F = 0 then firstS fs es fs.length es.length rec free else ([], false)
set_option maxHeartbeats 1000000 in
theorem First_any
  (n : Nat) (a : Option Addr) (cap : Nat) (fs : List Fld) (m : Nat) (ae : Option Addr) (ce : Nat) (es : List Edt) (w : World) (φ : Phi) (hφ : Fz φ w) (s : SlV φ a cap fs) (hn : Hid (fs.length = n)) (hm : n ≤ 9223372036854775807) (hg : Hid (∀ x ∈ fs, FldG x)) (se : SlV φ ae ce es) (hne : Hid (es.length = m)) (hme : m ≤ 9223372036854775807) (hge : Hid (∀ x ∈ es, EdtG x))
      (nr : Nat) (a2 : Option Addr) (c2 : Nat) (rec : List Int) (sr : SlV φ a2 c2 rec) (hrl : Hid (rec.length = nr)) (hmr : nr ≤ 9223372036854775807)
    (nf : Nat) (a3 : Option Addr) (c3 : Nat) (free : List Int) (sf : SlV φ a3 c3 free) (hfl : Hid (free.length = nf)) (hmf : nf ≤ 9223372036854775807)
    {F : Int} (hF : Hid (withF fs es rec = F)) {G : Int} (hG : Hid (firstF fs rec free F = G)) {l : List Int} {b : Bool} (hb : Hid (firstR fs es rec free G = (l, b))) :
    Calls Tryd.prog 14 #[.agg #[.slice a n cap, .slice ae m ce], .slice a2 nr c2, .slice a3 nf c3] w (SlBFPost l b G φ w) := by
  have hi0 := Lib.hid ((Inv.start hφ).alloc (.cells #[.slice a n cap, .slice ae m ce] 25))
  go_enter Tryd.func14, Tryd.ntmps14
  go_wp2_with fail
  refine (with_f n a cap fs m ae ce es _ φ (hφ.alloc _) s hn hm hg se hne hme hge nr a2 c2 rec sr hrl hmr hF).mono ?_
  rintro e w1 ⟨φ1, p, rfl, hi1, hR⟩
  have HI := Lib.hid (hi0.out.call hi1)
  have HR := Lib.hid hR
  clear hi1 hi0 hR
  by_cases hf : F = 0
  case neg =>
    have hff : (F != 0) = true := by simp [hf]
    have HF := Lib.hid hf
    have hg' : Hid (F = G) := Lib.hid (by rw [← hG.out, firstF, if_neg hf])
    have hb' : Hid (([], false) = (l, b)) := Lib.hid (by rw [← hb.out, firstR, ← hg'.out, if_neg hf])
    clear hf
    go_wp2
    go_ret3
    obtain ⟨rfl, rfl⟩ := Prod.mk.inj hb'.out
    obtain rfl := hg'.out
    exact ⟨φ1, none, 0, rfl, HI.out, SlV.empty _⟩
  obtain ⟨br, a', cap', ae', ce', ab', cb', rfl, hV⟩ := HR.out hf
  obtain ⟨hp, hl⟩ := withF_zero (hF.out.trans hf)
  have hl2 : Hid (rec.length = fs.length) := Lib.hid hl
  obtain rfl : fs.length = nr := by rw [← hrl.out, hl]
  have srr := sr.mono HI.out.le
  have sff := sf.mono HI.out.le
  have hff : (F != 0) = false := by simp [hf]
  have hg' : Hid (scan (freeBad fs.length free) nf = G) := Lib.hid (by rw [← hG.out, firstF, if_pos hf, freeF, hfl.out])
  have hn12 := hV.ok.pos
  clear hf hp hl HR
  have hNN : Hid (n = fs.length) := Lib.hid hn.out.symm
  generalize hNd : fs.length = N at *
  replace hNd := Lib.hid hNd
  go_wp2
  go_loop [26] (fun i => ∃ k : Nat, k ≤ nf ∧ i = .int .i64 k ∧ Hid (∀ i, i < k → freeBad N free i = 0)) (fun i => nf - (intOf i).toNat)
  case atStart => exact ⟨0, Nat.zero_le _, rfl, none_yet _⟩
  case round =>
    obtain ⟨k, hk, rfl, hok⟩ := hrel
    by_cases hlt : k < nf
    · obtain ⟨b1, o1, rfl, f1⟩ := sff.intsD hfl hlt
      have d1 := (f1 k hlt w1 HI.out.fz).2
      have HP := Lib.hid (fun h : 0 < k => (f1 (k - 1) (by omega) w1 HI.out.fz).2)
      have hbad : Hid (freeBad N free k = _) := Lib.hid (freeBad.eq_1 N free k)
      clear f1
      generalize free.getD k 0 = x at *
      generalize free.getD (k - 1) 0 = p at *
      obtain ⟨o, ho⟩ : ∃ o, Hid (outB x 0 ((N : Int) - 1) = o) := ⟨_, Lib.hid rfl⟩
      have STOP : Hid (∀ c, freeBad N free k = c → c ≠ 0 → G = c ∧ l = [] ∧ b = false) := Lib.hid (fun c hc hc0 => by
        have h1 : G = c := by rw [← hg'.out, scan_stop hok.out hlt (by rw [hc]; exact hc0), hc]
        have h2 := hb.out
        rw [firstR, if_neg (by rw [h1]; exact hc0)] at h2
        cases h2
        exact ⟨h1, rfl, rfl⟩)
      cases o
      case true =>
        go_wp2_with (go_at_call 36; refine (outside_b _ _ _ _ ho.out).mono ?_; rintro e w' ⟨rfl, rfl⟩)
        go_ret3
        obtain ⟨rfl, rfl, rfl⟩ := STOP.out 1 (by rw [hbad.out, if_pos ho.out]) (by decide)
        exact ⟨φ1, none, 0, rfl, HI.out, SlV.empty _⟩
      case false =>
        by_cases h3 : 0 < k
        · have hpp := HP.out h3
          have hix : 0 ≤ (k : Int) - 1 := by omega
          have hix2 : (k : Int) - 1 < nf := by omega
          have hto : ((k : Int) - 1).toNat = k - 1 := by omega
          by_cases hle : x ≤ p
          · go_wp2_with (go_at_call 36; refine (outside_b _ _ _ _ ho.out).mono ?_; rintro e w' ⟨rfl, rfl⟩)
            go_ret3
            obtain ⟨rfl, rfl, rfl⟩ := STOP.out 7 (by rw [hbad.out, if_neg (by rw [ho.out]; simp), if_pos ⟨h3, hle⟩]) (by decide)
            exact ⟨φ1, none, 0, rfl, HI.out, SlV.empty _⟩
          · go_wp2_with (go_at_call 36; refine (outside_b _ _ _ _ ho.out).mono ?_; rintro e w' ⟨rfl, rfl⟩)
            go_round
            case rel => exact ⟨k + 1, by omega, by go_num, next_ok hok (by rw [hbad.out, if_neg (by rw [ho.out]; simp), if_neg (by omega)])⟩
            case measure => simp [intOf]; omega
        · have h3i : decide ((0 : Int) < k) = false := decide_eq_false (by omega)
          go_wp2_with (go_at_call 36; refine (outside_b _ _ _ _ ho.out).mono ?_; rintro e w' ⟨rfl, rfl⟩)
          go_round
          case rel => exact ⟨k + 1, by omega, by go_num, next_ok hok (by rw [hbad.out, if_neg (by rw [ho.out]; simp), if_neg (by omega)])⟩
          case measure => simp [intOf]; omega
    · obtain rfl : k = nf := by omega
      have hG0 : Hid (G = 0) := Lib.hid (by rw [← hg'.out, scan_zero _ _ hok.out])
      have hfr : Hid (∀ j ∈ free, 0 ≤ j ∧ j < N) := Lib.hid (freeF_zero (by rw [freeF, hfl.out]; exact scan_zero _ _ hok.out))
      have hq : Hid (firstS fs es N es.length rec free = (l, b)) := Lib.hid (by rw [← hb.out, firstR, hG0.out, if_pos rfl, hNd.out])
      go_wp2_with (go_at_call 37; refine (first_any hV w1 HI.out.fz a2 c2 rec srr hl2 _ a3 c3 free sff hfl hmf hfr hq).mono ?_; rintro e w' ⟨φ2, a5, c5, rfl, hi5, hs5⟩)
      go_ret3
      obtain rfl := hG0.out
      exact ⟨φ2, a5, c5, rfl, HI.out.call hi5, hs5⟩
end Go.Proofs.YtambgcijceecpaaDoor
