/- The walks of the reference's weight, ahead, sorted. Conditions: none beyond what the claim form gives. -/
import Derived.Test.YtambgcijceecpaaDoorQ8
namespace Go.Proofs.YtambgcijceecpaaDoor
open Go.RowKit
set_option linter.unusedVariables false
theorem wSum_take {fs : List Fld} {l : List Int} {k : Nat} (hk : k < l.length) : wSum fs (l.take (k + 1)) = wSum fs (l.take k) + wOf fs (l.getD k 0) := by
  rw [take_snoc l k hk, wSum_snoc, getD_elem0 _ _ _ hk]
/-- A set of fields. -/
structure SetG (n : Nat) (l : List Int) : Prop where
  mem : ∀ k ∈ l, 0 ≤ k ∧ k < (n : Int)
  len : l.length ≤ n
set_option maxHeartbeats 1000000 in
theorem Rweight_any
  (n : Nat) (a : Option Addr) (cap : Nat) (fs : List Fld) (m : Nat) (ae : Option Addr) (ce : Nat) (es : List Edt) (ok : Hid (PlOk fs es n m))
    (w : World) (φ : Phi) (hφ : Fz φ w) (s : SlV φ a cap fs) (se : SlV φ ae ce es) (nl : Nat) (al : Option Addr) (cl : Nat) (l : List Int) (sl : SlV φ al cl l) (hl : Hid (l.length = nl)) (hg : Hid (SetG n l)) {q : Int} (hq : Hid (wSum fs l = q)) :
    Calls Tryd.prog 116 #[.agg #[.slice a n cap, .slice ae m ce], .slice al nl cl] w (IntB q w) := by
  have hS0 := Lib.hid (BxSt.new hφ #[.slice a n cap, .slice ae m ce] 25)
  have hn := Lib.hid ok.out.len
  have hn12 := ok.out.pos
  have hml : nl ≤ n := by have := hg.out.len; rw [hl.out] at this; exact this
  go_enter Tryd.func116, Tryd.ntmps116
  go_wp2
  have hF := Lib.hid hS0.out.fz
  have hB := Lib.hid hS0.out.bel
  have p0 : (w.alloc (.cells #[.slice a n cap, .slice ae m ce] 25)).cell? ⟨w.heap.size, 0, none⟩ = some (.slice a n cap) := hS0.out.k.cell 0
  generalize w.alloc (.cells #[.slice a n cap, .slice ae m ce] 25) = W at *
  clear hS0
  go_loop [5, 10] (fun ww i => ∃ k : Nat, k ≤ nl ∧ ww = .int .i64 (wSum fs (l.take k)) ∧ i = .int .i64 k) (fun _ i => nl - (intOf i).toNat)
  case atStart => exact ⟨0, Nat.zero_le _, rfl, rfl⟩
  case round =>
    obtain ⟨k, hk, rfl, rfl⟩ := hrel
    by_cases hlt : k < nl
    · obtain ⟨b1, o1, rfl, f1⟩ := sl.intsD hl hlt
      have d1 := (f1 k hlt W hF.out).2
      have hx := hg.out.mem (l.getD k 0) (by rw [getD_elem0 _ _ _ (by rw [hl.out]; exact hlt)]; exact List.getElem_mem _)
      have hsn := Lib.hid (wSum_take (fs := fs) (l := l) (k := k) (by rw [hl.out]; exact hlt))
      have hbd := wSum_bd (fs := fs) (l := l.take k) (fun j hj => by have h := hg.out.mem j (List.mem_of_mem_take hj); have := wts ok.out h.1 h.2; omega)
      have hlk : (l.take k).length ≤ k := List.length_take_le _ _
      clear f1
      generalize l.getD k 0 = x at *
      generalize (l.take k).length = lk at *
      generalize wSum fs (l.take k) = sw at *
      have hw1 := wts ok.out hx.1 hx.2
      obtain ⟨j, rfl⟩ : ∃ j : Nat, x = j := ⟨x.toNat, by omega⟩
      have hj : j < n := by omega
      obtain ⟨b2, o2, ha, f2⟩ := s.fldD hn hj
      obtain ⟨a4, c4, s4, f4⟩ := f2 j hj
      have d2 := (f4 W hF.out).2.2.2
      have hwk : Hid (wOf fs (j : Int) = (fs.getD j fld0).2.2) := Lib.hid rfl
      rw [hwk.out] at hw1
      subst ha
      clear f2 f4
      generalize (fs.getD j fld0).2.2 = wt at *
      go_wp2
      go_round
      case rel => exact ⟨k + 1, by omega, by rw [hsn.out, hwk.out], by go_num⟩
      case measure => simp [intOf]; omega
    · obtain rfl : k = nl := by omega
      go_wp2
      go_ret
      exact ⟨ret_int (by rw [← hl.out, List.take_length]; exact hq.out), hB.out⟩
theorem Rweight_S
  (n : Nat) (a : Option Addr) (cap : Nat) (fs : List Fld) (m : Nat) (ae : Option Addr) (ce : Nat) (es : List Edt) (ok : Hid (PlOk fs es n m))
    {w w' : World} {φ : Phi} {bx : Nat} (h : BxSt w φ bx #[.slice a n cap, .slice ae m ce] 25 w') (s : SlV φ a cap fs) (se : SlV φ ae ce es) (nl : Nat) (al : Option Addr) (cl : Nat) (l : List Int) (sl : SlV φ al cl l) (hl : Hid (l.length = nl)) (hg : Hid (SetG n l)) {q : Int} (hq : Hid (wSum fs l = q)) :
    Calls Tryd.prog 116 #[.agg #[.slice a n cap, .slice ae m ce], .slice al nl cl] w' (fun e w2 => e = .returned (.int .i64 q) ∧ w2.cell? ⟨bx, 0, none⟩ = some (.slice a n cap) ∧ w2.cell? ⟨bx, 1, none⟩ = some (.slice ae m ce) ∧ Hid (BxSt w φ bx #[.slice a n cap, .slice ae m ce] 25 w2)) :=
  (Rweight_any n a cap fs m ae ce es ok w' φ h.fz s se nl al cl l sl hl hg hq).mono (fun e w2 h2 => ⟨h2.1, (h.callB h2.2).k.cell 0, (h.callB h2.2).k.cell 1, Lib.hid (h.callB h2.2)⟩)
theorem ahead_eq {fs : List Fld} {x y : List Int} {wx wy q : Int} {nx ny : Nat} (h1 : wSum fs x = wx) (h2 : wSum fs y = wy) (h3 : x.length = nx) (h4 : y.length = ny) (h5 : cmpI x y = q) : ahead fs x y = true ↔ wx < wy ∨ (wx = wy ∧ (nx < ny ∨ (nx = ny ∧ q < 0))) := by
  rw [ahead_iff, h1, h2, h3, h4, h5]
set_option maxHeartbeats 1000000 in
theorem Rahead_any
  (n : Nat) (a : Option Addr) (cap : Nat) (fs : List Fld) (m : Nat) (ae : Option Addr) (ce : Nat) (es : List Edt) (ok : Hid (PlOk fs es n m))
    (w : World) (φ : Phi) (hφ : Fz φ w) (s : SlV φ a cap fs) (se : SlV φ ae ce es) (nx : Nat) (ax : Option Addr) (cx : Nat) (x : List Int) (sx : SlV φ ax cx x) (hx : Hid (x.length = nx)) (hgx : Hid (SetG n x)) (ny : Nat) (ay : Option Addr) (cy : Nat) (y : List Int) (sy : SlV φ ay cy y) (hy : Hid (y.length = ny)) (hgy : Hid (SetG n y)) {b : Bool} (hb : Hid (ahead fs x y = b)) :
    Calls Tryd.prog 105 #[.agg #[.slice a n cap, .slice ae m ce], .slice ax nx cx, .slice ay ny cy] w (BoolB b w) := by
  have hS0 := Lib.hid (BxSt.new hφ #[.slice a n cap, .slice ae m ce] 25)
  have hn12 := ok.out.pos
  obtain ⟨wx, hwx⟩ : ∃ k, Hid (wSum fs x = k) := ⟨_, Lib.hid rfl⟩
  obtain ⟨wy, hwy⟩ : ∃ k, Hid (wSum fs y = k) := ⟨_, Lib.hid rfl⟩
  obtain ⟨q, hq⟩ : ∃ k, Hid (cmpI x y = k) := ⟨_, Lib.hid rfl⟩
  have hbb : Hid (b = true ↔ wx < wy ∨ (wx = wy ∧ (nx < ny ∨ (nx = ny ∧ q < 0)))) := Lib.hid (by rw [← hb.out]; exact ahead_eq hwx.out hwy.out hx.out hy.out hq.out)
  have hxl : nx ≤ n := by have := hgx.out.len; rw [hx.out] at this; exact this
  have hyl : ny ≤ n := by have := hgy.out.len; rw [hy.out] at this; exact this
  go_enter Tryd.func105, Tryd.ntmps105
  go_wp2
  generalize w.alloc (.cells #[.slice a n cap, .slice ae m ce] 25) = W at *
  generalize hbx : w.heap.size = bx at *
  replace hbx := Lib.hid hbx
  have p0 : W.cell? ⟨bx, 0, none⟩ = some (.slice a n cap) := hS0.out.k.cell 0
  have p1 : W.cell? ⟨bx, 1, none⟩ = some (.slice ae m ce) := hS0.out.k.cell 1
  have hSd := Lib.hid (hS0.out.callB ((Below.refl _ _).drew) : BxSt w φ bx #[.slice a n cap, .slice ae m ce] 25 W.drew)
  go_region_held3 (fun w' => w'.cell? ⟨bx, 0, none⟩ = some (.slice a n cap) ∧ w'.cell? ⟨bx, 1, none⟩ = some (.slice ae m ce) ∧ Hid (BxSt w φ bx #[.slice a n cap, .slice ae m ce] 25 w')) (first | exact ⟨p0, p1, hS0⟩ | exact ⟨p0, p1, hSd⟩ | exact ⟨by assumption, by assumption, by assumption⟩) (first | ((with_reducible refine (Rweight_S n a cap fs m ae ce es ok (Hid.out (by assumption)) s se nx ax cx x sx hx hgx hwx).mono ?_); rintro e w' ⟨rfl, y0, y1, y2⟩) | ((with_reducible refine (Rweight_S n a cap fs m ae ce es ok (Hid.out (by assumption)) s se ny ay cy y sy hy hgy hwy).mono ?_); rintro e w' ⟨rfl, y0, y1, y2⟩))
  rename World => W2
  have hS2 : Hid (BxSt w φ bx #[.slice a n cap, .slice ae m ce] 25 W2) := by assumption
  have hB2 := Lib.hid hS2.out.bel
  have hF2 := Lib.hid hS2.out.fz
  rw [hbx.out] at hB2
  clear p0 p1 hS0 hSd hS2
  by_cases h1 : wx = wy
  · subst h1
    have g1 : (wx != wx) = false := by simp
    by_cases h2 : nx = ny
    · subst h2
      have g2 : ((nx : Int) != nx) = false := by simp
      go_wp2_with (go_at_call 79; refine (Compare_any nx ax cx x nx ay cy y W2 φ φ hF2.out hF2.out sx hx (by omega) sy hy (by omega) hq).mono ?_; rintro e w' ⟨rfl, rfl⟩)
      go_ret
      exact ⟨ret_bool (by rw [Bool.eq_iff_iff, hbb.out]; simp), by rw [hbx.out]; exact hB2.out⟩
    · have g2 : ((nx : Int) != ny) = true := by simp; omega
      go_wp2
      go_ret
      exact ⟨ret_bool (by rw [Bool.eq_iff_iff, hbb.out]; simp [h2]), by rw [hbx.out]; exact hB2.out⟩
  · have g1 : (wx != wy) = true := by simp [h1]
    go_wp2
    go_ret
    exact ⟨ret_bool (by rw [Bool.eq_iff_iff, hbb.out]; simp [h1]), by rw [hbx.out]; exact hB2.out⟩
end Go.Proofs.YtambgcijceecpaaDoor
