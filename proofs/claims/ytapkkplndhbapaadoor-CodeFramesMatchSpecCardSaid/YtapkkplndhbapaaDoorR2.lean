/- The walks of the reference's above and CheckFrame. Conditions: none beyond what the claim form gives. -/
import Derived.Test.YtapkkplndhbapaaDoorR1
namespace Go.Proofs.YtapkkplndhbapaaDoor
open Go.RowKit
set_option linter.unusedVariables false

theorem nodup_sub : ∀ (xs ys : List Int), xs.Nodup → (∀ x ∈ xs, x ∈ ys) → xs.length ≤ ys.length
  | [], _, _, _ => by simp
  | x :: xs, ys, hn, hs => by
    have hx : x ∈ ys := hs x (by simp)
    have hn' := List.nodup_cons.1 hn
    have := nodup_sub xs (ys.erase x) hn'.2 (fun y hy => by
      have hne : y ≠ x := fun e => hn'.1 (e ▸ hy)
      exact (List.mem_erase_of_ne hne).2 (hs y (by simp [hy])))
    rw [List.length_erase_of_mem hx] at this
    have hp : 0 < ys.length := List.length_pos_of_mem hx
    simp; omega
section
variable {l : List Nod} {n : Nat}
theorem upA_vldP (h : ParOk l n) : ∀ {f m : Nat} {c x : Int}, lvA l f c = some m → (c = 0 ∨ (ix l c).isSome = true) → x ∈ upA l m c → (ix l x).isSome = true
  | f, 0, c, x, hm, hc, hx => by simp [upA] at hx
  | f, m + 1, c, x, hm, hc, hx => by
    obtain ⟨h0, h1⟩ := lvA_step hm
    have hc := hc.resolve_left h0
    obtain ⟨_, _, _, _, _, hp⟩ := h.up hc
    rw [upA] at hx
    rcases List.mem_cons.1 hx with rfl | hx
    · exact hc
    · exact upA_vldP h h1 hp hx
theorem upA_nodup {f : Nat} : ∀ {m : Nat} {c : Int}, lvA l f c = some m → (upA l m c).Nodup
  | 0, c, hm => by simp [upA]
  | m + 1, c, hm => by
    obtain ⟨h0, h1⟩ := lvA_step hm
    rw [upA, List.nodup_cons]
    refine ⟨fun hx => ?_, upA_nodup h1⟩
    obtain ⟨j, q1, q2, _⟩ := mem_upA h1 hx
    rw [hm] at q1; cases q1; omega
theorem lvA_bound (h : ParOk l n) {f m : Nat} {c : Int} (hm : lvA l f c = some m) (hc : c = 0 ∨ (ix l c).isSome = true) : m ≤ n := by
  have h1 := nodup_sub (upA l m c) ((List.range n).map (cod l)) (upA_nodup hm) (fun x hx => by
    have := upA_vldP h hm hc hx
    obtain ⟨i, hi, he, _⟩ := h.up this
    exact List.mem_map.2 ⟨i, List.mem_range.2 hi, he⟩)
  rw [upA_length] at h1
  simpa using h1
/-- The j-th above a code. -/
def itC (l : List Nod) : Nat → Int → Int
  | 0, c => c
  | j + 1, c => parC l (itC l j c)
theorem itC_succ (l : List Nod) : ∀ (j : Nat) (c : Int), itC l (j + 1) c = itC l j (parC l c)
  | 0, c => rfl
  | j + 1, c => by rw [itC, itC_succ l j c, ← itC]
theorem upA_snoc (l : List Nod) : ∀ (j : Nat) (c : Int), upA l (j + 1) c = upA l j c ++ [itC l j c]
  | 0, c => rfl
  | j + 1, c => by rw [upA, upA_snoc l j (parC l c), upA, ← itC_succ]; rfl
theorem lvA_it : ∀ {j : Nat} {c : Int}, (∀ i, i ≤ j → itC l i c ≠ 0) → itC l (j + 1) c = 0 → lvA l (j + 1) c = some (j + 1)
  | 0, c, h, hz => by
    have h0 : c ≠ 0 := h 0 (Nat.le_refl _)
    have hz : parC l c = 0 := hz
    rw [lvA, if_neg h0, hz, lvA_zero]; rfl
  | j + 1, c, h, hz => by
    have h0 : c ≠ 0 := h 0 (by omega)
    rw [lvA, if_neg h0, lvA_it (fun i hi => by rw [← itC_succ]; exact h (i + 1) (by omega)) (by rw [← itC_succ]; exact hz)]; rfl
theorem it_zero {f : Nat} : ∀ {k : Nat} {c : Int}, lvA l f c = some k → itC l k c = 0
  | 0, c, h => by
    cases f with
    | zero => unfold lvA at h; split at h; assumption; cases h
    | succ f =>
      unfold lvA at h
      split at h
      · assumption
      · cases hp : lvA l f (parC l c) with
        | none => rw [hp] at h; cases h
        | some j => rw [hp] at h; cases h
  | k + 1, c, h => by
    obtain ⟨h0, h1⟩ := lvA_step h
    rw [itC_succ]; exact it_zero h1
/-- What the reference's above gives. -/
def abvF (l : List Nod) (c : Int) : List Int × Bool := match lvA l l.length c with | some _ => ((upL l c).tail, true) | none => ([], false)
theorem abv_t (h : ParOk l n) {c : Int} (hc : (ix l c).isSome = true) {j : Nat} (h1 : ∀ i, i ≤ j → itC l i c ≠ 0) (h2 : itC l (j + 1) c = 0) : abvF l c = ((upA l (j + 1) c).tail, true) := by
  have e := lvA_it h1 h2
  have hb := lvA_bound h e (.inr hc)
  have e2 : lvA l l.length c = some (j + 1) := lvA_mono e _ (by rw [h.len]; exact hb)
  unfold abvF
  rw [e2]
  dsimp only
  rw [upL, lvl_of e2]
theorem abv_f (h : ParOk l n) {c : Int} {j : Nat} (h1 : ∀ i, i ≤ j → itC l i c ≠ 0) (hj : n ≤ j) : abvF l c = ([], false) := by
  unfold abvF
  cases e : lvA l l.length c with
  | none => rfl
  | some k =>
    have := it_zero e
    have hk := lvA_le e
    exact absurd this (h1 k (by rw [h.len] at hk; omega))
end
def slLen : Value → Nat
  | .slice _ n _ => n
  | _ => 0
/-- A slice and a value. -/
def SlPostV {α : Type} [Rep α] (xs : List α) (v : Value) (φ : Phi) (w : World) (e : Ending) (w' : World) : Prop :=
  ∃ a cap φ', e = .returned (.tuple #[.slice a xs.length cap, v]) ∧ Inv w.heap.size w φ φ' w' ∧ SlV φ' a cap xs

set_option maxRecDepth 100000 in
set_option maxHeartbeats 1000000 in
theorem above_any {w : World} {a : Option Addr} {c n : Nat} {l : List Nod} {φ : Phi} (hφ : Fz φ w) (s : SlV φ a c l) (hok : Hid (ParOk l n)) (x : Int) (hx : (ix l x).isSome = true) :
    Calls Tryd.prog 28 #[.slice a n c, .int .i64 x] w (SlPostV (abvF l x).1 (.bool (abvF l x).2) φ w) := by
  have hn : Hid (l.length = n) := Lib.hid hok.out.len
  have hfr : Hid (FrOk l n) := Lib.hid hok.out.toFrOk
  have hn6 : n ≤ 600 := hok.out.pos.2
  have HX := Lib.hid hx
  clear hx
  obtain ⟨ib, hib, hie, _⟩ := hok.out.up HX.out
  have hxi : Hid (fdI l x = (ib : Int)) := Lib.hid (by rw [← hie]; exact fdI_some (hok.out.ix_of hib))
  have hx0 : Hid (x ≠ 0) := Lib.hid (by have := (hok.out.rng ib hib).1; omega)
  have HIE := Lib.hid hie
  clear hie
  go_enter Tryd.func28, Tryd.ntmps28
  go_wp2_with fail
  refine (find_any hφ s hfr x).mono ?_
  rintro e w1 ⟨rfl, hb⟩
  rw [hxi.out]
  have HB := Lib.hid hb
  clear hb
  have hSt : Hid (OwSt w1 φ 3 none 0 ((upA l 1 x).tail) w1) := Lib.hid ⟨Inv.start (hφ.below HB.out), Own.nil _ _ _ _⟩
  go_wp2
  go_loopw [6, 7] (fun o i wr => ∃ (j k : Nat) (ao : Option Addr) (co : Nat), o = .slice ao j co ∧ i = .int .i64 (k : Int) ∧ k < n ∧ j ≤ n ∧ Hid (cod l k = itC l j x) ∧ Hid (∀ i, i ≤ j → itC l i x ≠ 0) ∧ Hid ((ix l (itC l j x)).isSome = true) ∧ Hid (OwSt w1 φ 3 ao co ((upA l (j + 1) x).tail) wr)) (fun o _ _ => n + 1 - slLen o)
  case atStart => exact ⟨0, ib, none, 0, rfl, rfl, hib, Nat.zero_le _, HIE, Lib.hid (fun i hi => (by obtain rfl : i = 0 := Nat.le_zero.1 hi; exact hx0.out)), HX, hSt⟩
  case round =>
    clear hSt
    obtain ⟨j, k, ao, co, rfl, rfl, hk, hj, hcd, hnz, hvl, hSt⟩ := hrel
    obtain ⟨b, off, rfl, f⟩ := s.nodesD hn hk
    obtain ⟨hb, c1, c2, c3⟩ := f k hk wr hSt.out.inv.fz
    have hpar : Hid ((l.getD k nod0).2.1 = itC l (j + 1) x) := Lib.hid (by
      obtain ⟨i, h1, h2, h3, h4, _⟩ := hok.out.up hvl.out
      have : i = k := hok.out.inj i k h1 hk (h2.trans hcd.out.symm)
      subst this
      exact h4.symm)
    have hpv : Hid (itC l (j + 1) x = 0 ∨ (ix l (itC l (j + 1) x)).isSome = true) := Lib.hid (by obtain ⟨i, _, _, _, _, h5⟩ := hok.out.up hvl.out; exact h5)
    have hki : (k : Int) < n := by omega
    have hki0 : (0 : Int) ≤ (k : Int) := by omega
    have hs1 : Hid ((upA l (j + 1 + 1) x).tail = (upA l (j + 1) x).tail ++ [itC l (j + 1) x]) := Lib.hid (by
      rw [upA_snoc l (j + 1) x, upA]; rfl)
    have hlen : Hid (((upA l (j + 1) x).tail).length = j) := Lib.hid (by rw [List.length_tail, upA_length]; omega)
    have ft := Lib.hid (fun h => abv_t hok.out HX.out hnz.out h)
    have ff := Lib.hid (fun h => abv_f (c := x) (j := j + 1) hok.out h)
    have hnz2 : Hid (itC l (j + 1) x ≠ 0 → ∀ i, i ≤ j + 1 → itC l i x ≠ 0) := Lib.hid (fun h i hi => by
      by_cases e : i = j + 1
      · subst e; exact h
      · exact hnz.out i (by omega))
    have HF := Lib.hid f
    clear f
    rw [hpar.out] at c2
    generalize hpx : itC l (j + 1) x = p at *
    replace hpx := Lib.hid hpx
    by_cases hp0 : p = 0
    · have hg : ((p : Int) != 0) = false := by simp [hp0]
      have e := Lib.hid (ft.out hp0)
      clear hp0
      go_wp2
      obtain ⟨φ', hle, hi, hs, _⟩ := hSt.out.own.release hSt.out.inv
      refine bodyPost_ret (v := .tuple #[.slice ao j co, .bool true]) (by simp [results, Tryd.results28, go_sem]) rfl ⟨ao, co, φ', by rw [e.out]; simp [hlen.out], ((Inv.start hφ).callB HB.out).call hi, by rw [e.out]; exact hs⟩
    · have hg : ((p : Int) != 0) = true := by simp [hp0]
      have H0 := Lib.hid hp0
      have hvp := Lib.hid (hpv.out.resolve_left hp0)
      clear hp0
      obtain ⟨i2, hi2, hie2, _⟩ := hok.out.up hvp.out
      have hfi : Hid (fdI l p = (i2 : Int)) := Lib.hid (by rw [← hie2]; exact fdI_some (hok.out.ix_of hi2))
      have HIE2 := Lib.hid hie2
      have hin := hSt.out.inv
      have hon := hSt.out.own
      clear hie2
      generalize hout : (upA l (j + 1) x).tail = out at *
      have HOUT := Lib.hid hout
      clear hout
      have hol : out.length ≤ 600 := by rw [hlen.out]; omega
      rw [← hlen.out]
      have hrel1 : out.length = j := hlen.out
      by_cases hfull : n < out.length + 1
      · go_wp2_with (at_builtin; refine wpList_app1 (α := Int) rfl _ _ 27 rfl slI hin ao co _ hon _ _ p rfl rfl 1 rfl (by omega) ?_; intro a2 cap2 w2 hi2' hown2 hgr; have e2 := (HF.out k hk w2 hi2'.fz).2.2.1; rw [hpar.out] at e2)
        subst hrel1
        have hS2 : Hid (OwSt w1 φ 3 a2 cap2 (out ++ [p]) w2) := Lib.hid ⟨hi2', hown2⟩
        have e := Lib.hid (ff.out (hnz2.out H0.out) (by omega))
        refine bodyPost_ret (v := .tuple #[.slice none 0 0, .bool false]) (by simp [results, Tryd.results28, go_sem]) rfl ⟨none, 0, φ, by rw [e.out]; rfl, ((Inv.start hφ).callB HB.out).call hS2.out.inv, by rw [e.out]; exact SlV.empty _⟩
      · go_wp2_with (at_builtin; refine wpList_app1 (α := Int) rfl _ _ 27 rfl slI hin ao co _ hon _ _ p rfl rfl 1 rfl (by omega) ?_; intro a2 cap2 w2 hi2' hown2 hgr; have e2 := (HF.out k hk w2 hi2'.fz).2.2.1; rw [hpar.out] at e2)
        have hS2 : Hid (OwSt w1 φ 3 a2 cap2 (out ++ [p]) w2) := Lib.hid ⟨hi2', hown2⟩
        refine (find_any hS2.out.inv.fz s hfr p).mono ?_
        rintro e w3 ⟨rfl, hb3⟩
        have hS3 := Lib.hid (hS2.out.callB hb3)
        rw [hfi.out]
        clear hb3 e2 hi2' hown2 hgr
        subst hrel1
        go_wp2
        go_roundw
        case rel => exact ⟨out.length + 1, i2, a2, cap2, by simp, rfl, hi2, by omega, by rw [hpx.out]; exact HIE2, hnz2.out H0.out, by rw [hpx.out]; exact hvp, by rw [hs1.out]; exact hS3⟩
        case measure => simp [slLen]; omega
end Go.Proofs.YtapkkplndhbapaaDoor
