/- The walk of Repairs. Conditions: the library's table of powers of ten reads as it was laid. -/
import Derived.Test.YtkfmadeeobalaaaDoorR1
import Derived.Test.YtkfmadeeobalaaaDoorED
namespace Go.Proofs.YtkfmadeeobalaaaDoor
open Go.RowKit
set_option linter.unusedVariables false
theorem slRp : SliceTy Tryd.prog 27 34 (.agg #[.slice none 0 0, .slice none 0 0, .int .i64 0]) (Rep.size Rpr) 56 := ⟨Tryd.underlying27, by kernel_rfl, rfl, by decide, by decide⟩
/-- The fault of Repairs. -/
noncomputable def repsF (fs : List Fld) (es : List Edt) (l : List (List Int)) (seed : ByteArray) : Int :=
  if planF fs es ≠ 0 then planF fs es else if listF fs.length l ≠ 0 then listF fs.length l
  else if l.length ≠ 0 ∧ (allR fs fs.length).any (fun x => passB fs es x fs.length es.length) = false then 9 else if 100 < seed.size then 2 else 0
noncomputable def repsL (fs : List Fld) (es : List Edt) (l : List (List Int)) (seed : ByteArray) (F : Int) : List Rpr :=
  if F = 0 then (List.range l.length).map (fun i => repI fs es fs.length es.length l seed l.length i) else []
def RepsPost (out : List Rpr) (F : Int) (φ : Phi) (w : World) (e : Ending) (w' : World) : Prop :=
  ∃ φ' a cap, e = .returned (.tuple #[.slice a out.length cap, .int .i64 F]) ∧ Inv w.heap.size w φ φ' w' ∧ SlV φ' a cap out
/-- A list in the making, what is read frozen beside it. -/
structure OuSt (w0 : World) (φ0 φ : Phi) (a : Option Addr) (c : Nat) (xs : List Rpr) (wr : World) : Prop where
  inv : Inv w0.heap.size w0 φ0 φ wr
  o : Own w0.heap.size φ wr 34 a c xs
section
variable {w0 wr w' : World} {φ0 φ φ' : Phi} {a a' : Option Addr} {c c' : Nat} {xs xs' : List Rpr}
theorem OuSt.call (h : OuSt w0 φ0 φ a c xs wr) (hi : Inv wr.heap.size wr φ φ' w') : OuSt w0 φ0 φ' a c xs w' := ⟨h.inv.call hi, h.o.call hi⟩
theorem OuSt.callB (h : OuSt w0 φ0 φ a c xs wr) (hb : Below wr.heap.size wr w') : OuSt w0 φ0 φ a c xs w' := ⟨h.inv.callB hb, h.o.callB hb⟩
theorem OuSt.box (h : OuSt w0 φ0 φ a c xs wr) (o : Obj) {k : Nat} {v : Value} : OuSt w0 φ0 φ a c xs ((wr.alloc o).setCell ⟨wr.heap.size, k, none⟩ v) := by
  have h2 := h.callB ((Below.refl _ _).alloc (Nat.le_refl _) o)
  exact ⟨h2.inv.setCell h.inv.size (h.inv.fz.new_none (Nat.le_refl _)) v, h2.o.other (grown_set _ _ _ _) (fun x hx e => by have := (h.o.lt x hx).2; have e2 := Option.some.inj e; omega)⟩
end
theorem outL_succ (fs : List Fld) (es : List Edt) (n m : Nat) (l : List (List Int)) (seed : ByteArray) (N k : Nat) : (List.range (k + 1)).map (fun i => repI fs es n m l seed N i) = (List.range k).map (fun i => repI fs es n m l seed N i) ++ [repI fs es n m l seed N k] := by rw [List.range_succ, List.map_append]; rfl
theorem repI_eq {fs : List Fld} {es : List Edt} {n m : Nat} {l : List (List Int)} {seed : ByteArray} {N i : Nat} {f : List Int} {lw : Int} {fo bb : Bool} (h : leastS fs es n m (l.getD i []) = ((f, lw, fo), bb)) :
    repI fs es n m l seed N i = ((impR fs es n m (l.getD i []) f (donK fs es n m l N) (shufF (seedI seed i) (donK fs es n m l N).length)).1, f,
      if 0 ≤ (impR fs es n m (l.getD i []) f (donK fs es n m l N) (shufF (seedI seed i) (donK fs es n m l N).length)).2 then (numK fs es n m l N).getD (impR fs es n m (l.getD i []) f (donK fs es n m l N) (shufF (seedI seed i) (donK fs es n m l N).length)).2.toNat 0
      else (impR fs es n m (l.getD i []) f (donK fs es n m l N) (shufF (seedI seed i) (donK fs es n m l N).length)).2) := by
  unfold repI
  rw [h]
set_option maxRecDepth 100000 in
set_option maxHeartbeats 2000000 in
theorem Repairs_any
  (n : Nat) (a : Option Addr) (cap : Nat) (fs : List Fld) (m : Nat) (ae : Option Addr) (ce : Nat) (es : List Edt) (w : World) (φ : Phi) (hφ : Fz φ w) (hpw : PowP φ) (s : SlV φ a cap fs) (hn : Hid (fs.length = n)) (hm : n ≤ 9223372036854775807) (hg : Hid (∀ x ∈ fs, FldG x)) (se : SlV φ ae ce es) (hne : Hid (es.length = m)) (hme : m ≤ 9223372036854775807) (hge : Hid (∀ x ∈ es, EdtG x))
      (nl : Nat) (a2 : Option Addr) (c2 : Nat) (l : List (List Int)) (sl : SlV φ a2 c2 l) (hll : Hid (l.length = nl)) (hml : nl ≤ 9223372036854775807) (seed : ByteArray) (hsd : seed.size ≤ reachBytes)
    {F : Int} (hF : Hid (repsF fs es l seed = F)) {out : List Rpr} (ho : Hid (repsL fs es l seed F = out)) :
    Calls Tryd.prog 6 #[.agg #[.slice a n cap, .slice ae m ce], .slice a2 nl c2, .string seed] w (RepsPost out F φ w) := by
  have hi0 := Lib.hid ((Inv.start hφ).alloc (.cells #[.slice a n cap, .slice ae m ce] 25))
  unfold reachBytes at hsd
  go_enter Tryd.func6, Tryd.ntmps6
  go_wp2_with fail
  refine (rulesOf_any n a cap fs m ae ce es _ φ (hφ.alloc _) s hn hm hg se hne hme hge).mono ?_
  rintro e w1 ⟨φ1, hi1, ⟨hp, rfl⟩ | ⟨hp, br, rfl, hR⟩⟩
  · have HI := Lib.hid (hi0.out.call hi1)
    obtain ⟨P, hP⟩ : ∃ P, Hid (planF fs es = P) := ⟨_, Lib.hid rfl⟩
    rw [hP.out] at hp ⊢
    have hpp : (P != 0) = true := by simp [hp]
    have HF : Hid (F = P) := Lib.hid (by rw [← hF.out, repsF, hP.out, if_pos hp])
    have HO : Hid (out = []) := Lib.hid (by rw [← ho.out, repsL, HF.out, if_neg hp])
    clear hi1 hi0 hp
    go_wp2
    go_ret2
    obtain rfl := HF.out
    obtain rfl := HO.out
    exact ⟨φ1, none, 0, rfl, HI.out, SlV.empty _⟩
  have HI := Lib.hid (hi0.out.call hi1)
  obtain ⟨a', cap', ae', ce', ab', cb', hV⟩ := hR.open_ hp rfl rfl
  obtain ⟨lf, hlf⟩ : ∃ k, Hid (listF fs.length l = k) := ⟨_, Lib.hid rfl⟩
  have hF2 := hF.out
  rw [repsF, if_neg (by simp [hp]), hlf.out] at hF2
  have HF0 := Lib.hid hF2
  have sl1 := sl.mono HI.out.le
  have HPW := Lib.hid (hpw.mono HI.out.le)
  have C1 := Lib.hid (listFault_any hV w1 HI.out.fz nl a2 c2 l sl1 hll hlf)
  clear hi1 hi0 hp hF hF2 hpw
  by_cases hz : lf = 0
  case neg =>
    have hlb : (lf != 0) = true := by simp [hz]
    have HF : Hid (F = lf) := Lib.hid (by rw [← HF0.out, if_pos hz])
    have HO : Hid (out = []) := Lib.hid (by rw [← ho.out, repsL, HF.out, if_neg hz])
    clear hz
    go_wp2_with fail
    refine C1.out.mono ?_
    rintro e w' ⟨rfl, rfl⟩
    go_wp2
    go_ret2
    obtain rfl := HF.out
    obtain rfl := HO.out
    exact ⟨φ1, none, 0, rfl, HI.out, SlV.empty _⟩
  subst hz
  obtain ⟨hd3, hdr⟩ := listF_zero hlf.out
  rw [hll.out] at hd3 hdr
  have HDR := Lib.hid hdr
  have hF2 := HF0.out
  rw [if_neg (by simp), hll.out] at hF2
  have HF1 := Lib.hid hF2
  obtain ⟨pq, hpq⟩ : ∃ q, Hid ((allR fs fs.length).any (fun x => passB fs es x fs.length es.length) = q) := ⟨_, Lib.hid rfl⟩
  rw [hpq.out] at HF1
  have C2 := Lib.hid (allPass_any hV w1 HI.out.fz hpq)
  have OK := Lib.hid hV.ok
  clear hdr hF2 HF0
  by_cases hbad : nl ≠ 0 ∧ pq = false
  · obtain ⟨hb1, rfl⟩ := hbad
    have hgt : (0 : Int) < nl := by omega
    have HF : Hid (F = 9) := Lib.hid (by rw [← HF1.out, if_pos ⟨hb1, rfl⟩])
    have HO : Hid (out = []) := Lib.hid (by rw [← ho.out, repsL, HF.out]; rfl)
    clear hb1
    go_wp2_with (first
      | (go_at_call 23; refine C1.out.mono ?_; rintro e w' ⟨rfl, rfl⟩)
      | (go_at_call 24; refine C2.out.mono ?_; rintro e w2 ⟨rfl, hb2⟩))
    go_ret2
    obtain rfl := HF.out
    obtain rfl := HO.out
    exact ⟨φ1, none, 0, rfl, HI.out.callB hb2, SlV.empty _⟩
  have hpos : Hid (nl ≠ 0 → pq = true) := Lib.hid (fun h => by
    cases pq with
    | true => rfl
    | false => exact absurd ⟨h, rfl⟩ hbad)
  have HF2 : Hid ((if 100 < seed.size then 2 else 0) = F) := Lib.hid (by rw [← HF1.out, if_neg hbad])
  clear HF1 hbad
  by_cases hnl : nl = 0
  · subst hnl
    have hl0 : l = [] := List.eq_nil_of_length_eq_zero hll.out
    subst hl0
    have hgt : decide ((0 : Int) > 0) = false := by simp
    by_cases hs : 100 < seed.size
    · have HF : Hid (F = 2) := Lib.hid (by rw [← HF2.out, if_pos hs])
      have HO : Hid (out = []) := Lib.hid (by rw [← ho.out, repsL, HF.out]; rfl)
      go_wp2_with (go_at_call 23; refine C1.out.mono ?_; rintro e w' ⟨rfl, rfl⟩)
      go_ret2
      obtain rfl := HF.out
      obtain rfl := HO.out
      exact ⟨φ1, none, 0, rfl, HI.out, SlV.empty _⟩
    · have HF : Hid (F = 0) := Lib.hid (by rw [← HF2.out, if_neg hs])
      have HO : Hid (out = []) := Lib.hid (by rw [← ho.out, repsL, HF.out]; rfl)
      go_wp2_with (go_at_call 23; refine C1.out.mono ?_; rintro e w' ⟨rfl, rfl⟩)
      go_loop [50] (fun i => i = .int .i64 0) (fun i => 0)
      case atStart => rfl
      case round =>
        obtain rfl := hrel
        go_wp2
        go_loop [15, 69] (fun v i => v = .slice none 0 0 ∧ i = .int .i64 0) (fun _ i => 0)
        case atStart => exact ⟨rfl, rfl⟩
        case round =>
          obtain ⟨rfl, rfl⟩ := hrel
          go_wp2
          go_ret2
          obtain rfl := HF.out
          obtain rfl := HO.out
          exact ⟨φ1, none, 0, rfl, HI.out, SlV.empty _⟩
  have hpq1 := hpos.out hnl
  subst hpq1
  have hgt : (0 : Int) < nl := by omega
  by_cases hs : 100 < seed.size
  · have HF : Hid (F = 2) := Lib.hid (by rw [← HF2.out, if_pos hs])
    have HO : Hid (out = []) := Lib.hid (by rw [← ho.out, repsL, HF.out]; rfl)
    go_wp2_with (first
      | (go_at_call 23; refine C1.out.mono ?_; rintro e w' ⟨rfl, rfl⟩)
      | (go_at_call 24; refine C2.out.mono ?_; rintro e w2 ⟨rfl, hb2⟩))
    go_ret2
    obtain rfl := HF.out
    obtain rfl := HO.out
    exact ⟨φ1, none, 0, rfl, HI.out.callB hb2, SlV.empty _⟩
  have HF : Hid (F = 0) := Lib.hid (by rw [← HF2.out, if_neg hs])
  have HO : Hid (out = (List.range nl).map (fun i => repI fs es fs.length es.length l seed nl i)) := Lib.hid (by rw [← ho.out, repsL, HF.out, if_pos rfl, hll.out])
  clear HF2 hpos
  obtain ⟨N, hN⟩ : ∃ N, fs.length = N := ⟨_, rfl⟩
  obtain ⟨M, hM⟩ : ∃ M, es.length = M := ⟨_, rfl⟩
  rw [hN, hM] at hV HO OK hpq
  rw [hN] at HDR
  clear hN hM hn hne hlf
  go_wp2_with (first
    | (go_at_call 23; refine C1.out.mono ?_; rintro e w' ⟨rfl, rfl⟩)
    | (go_at_call 24; refine C2.out.mono ?_; rintro e w2 ⟨rfl, hb2⟩))
  have HW : Hid (Ow2 w φ1 32 3 none 0 (donK fs es N M l 0) none 0 (numK fs es N M l 0) w2) := Lib.hid ⟨(HI.out.callB hb2).toSelf, Own.nil _ _ _ _, Own.nil _ _ _ _, fun _ _ _ h => by cases h⟩
  clear hb2 C1 C2
  go_loopw [11, 12, 50] (fun v u i wr => ∃ (k : Nat) (a5 : Option Addr) (c5 : Nat) (a6 : Option Addr) (c6 : Nat), k ≤ nl ∧ v = .slice a5 (donK fs es N M l k).length c5 ∧ u = .slice a6 (numK fs es N M l k).length c6 ∧ i = .int .i64 k ∧ Hid (Ow2 w φ1 32 3 a5 c5 (donK fs es N M l k) a6 c6 (numK fs es N M l k) wr)) (fun _ _ i _ => nl - (intOf i).toNat)
  case atStart => exact ⟨0, none, 0, none, 0, Nat.zero_le _, rfl, rfl, rfl, HW⟩
  case round =>
    clear HW
    obtain ⟨k, a5, c5, a6, c6, hk, rfl, rfl, rfl, hS⟩ := hrel
    by_cases hlt : k < nl
    · obtain ⟨b3, o3, rfl, f3⟩ := sl1.lists hll hlt
      obtain ⟨a4, c4, s4, f3⟩ := f3 k hlt
      have d3 := (f3 wr hS.out.inv.fz).2
      have hxl := Lib.hid (HDR.out k hlt)
      rw [hxl.out] at d3
      obtain ⟨pb, hpb⟩ : ∃ b, Hid (passB fs es (l.getD k []) N M = b) := ⟨_, Lib.hid rfl⟩
      have C3 := Lib.hid (passes_any hV wr hS.out.inv.fz a4 c4 (l.getD k []) s4 hxl hpb)
      have HL1 := Lib.hid (donK_len (fs := fs) (es := es) (n := N) (m := M) (l := l) (k := k))
      have HL2 := Lib.hid (numK_le (fs := fs) (es := es) (n := N) (m := M) (l := l) (k := k))
      clear f3
      cases pb with
      | false =>
        have H1 := Lib.hid (donK_f hpb.out)
        have H2 := Lib.hid (numK_f hpb.out)
        go_wp2_with (go_at_call 25; refine C3.out.mono ?_; rintro e w5 ⟨rfl, hb5⟩)
        go_roundw
        case rel => exact ⟨k + 1, a5, c5, a6, c6, by omega, by rw [H1.out], by rw [H2.out], by go_num, by rw [H1.out, H2.out]; exact Lib.hid (hS.out.callB hb5)⟩
        case measure => (simp [intOf] <;> omega)
      | true =>
        have H1 := Lib.hid (donK_t hpb.out)
        have H2 := Lib.hid (numK_t hpb.out)
        have S4 := Lib.hid s4
        generalize hx : l.getD k [] = x at *
        generalize hD : donK fs es N M l k = D at *
        generalize hU : numK fs es N M l k = U at *
        clear hx hD hU s4
        go_wp2_with (first
          | (go_at_call 25; refine C3.out.mono ?_; rintro e w5 ⟨rfl, hb5⟩; have HS5 := Lib.hid (hS.out.callB hb5); have hin := Lib.hid HS5.out.inv; have hon := Lib.hid HS5.out.o1; clear hb5)
          | (at_builtin; (refine wpList_app1F (α := List Int) rfl _ _ 26 rfl slLL hin.out a5 c5 _ hon.out _ _ x ⟨a4, c4, (by rw [hxl.out]), S4.out⟩ rfl 1 rfl (by have := HL1.out; omega) ?_; intro a8 c8 w8 hi8 ho8 hg8 hf8; have HS8 := Lib.hid ((HS5.out.alloc _).step1 hi8 ho8 hg8 hf8); have hin8 := Lib.hid HS8.out.inv; have hon8 := Lib.hid HS8.out.o2; clear hi8 ho8 hg8 hf8))
          | (at_builtin; (refine wpList_app1F (α := Int) rfl _ _ 32 rfl slI hin8.out a6 c6 _ hon8.out _ _ (k : Int) rfl rfl 1 rfl (by have := HL2.out; omega) ?_; intro a9 c9 w9 hi9 ho9 hg9 hf9)))
        go_roundw
        case rel => exact ⟨k + 1, a8, c8, a9, c9, by omega, by rw [H1.out, List.length_append]; rfl, by rw [H2.out, List.length_append]; rfl, by go_num, by rw [H1.out, H2.out]; exact Lib.hid (((HS8.out.alloc _).swap.step1 hi9 ho9 hg9 hf9).swap)⟩
        case measure => (simp [intOf] <;> omega)
    · obtain rfl : k = nl := by omega
      obtain ⟨φ2, l2, i2, sD, sU⟩ := hS.out.release
      have SD := Lib.hid sD
      have SU := Lib.hid sU
      have HLE := Lib.hid (HI.out.le.trans l2)
      have L12 := Lib.hid l2
      have HNW := Lib.hid (fun b (hb : b < w.heap.size) => (i2.new b hb).trans (HI.out.new b hb))
      have HLU := Lib.hid (numK_len (fs := fs) (es := es) (n := N) (m := M) (l := l) (k := k))
      have HLD := Lib.hid (donK_len (fs := fs) (es := es) (n := N) (m := M) (l := l) (k := k))
      have HV2 := hV.mono l2
      have HND := Lib.hid (fun j (hj : j < (donK fs es N M l k).length) => num_don hj)
      have HDL : Hid (∀ i, i < (donK fs es N M l k).length → ((donK fs es N M l k).getD i []).length = N) := Lib.hid (fun i hi => by
        obtain ⟨q, q1, _, q3, _⟩ := num_don hi
        rw [q3]; exact HDR.out q q1)
      have HW : Hid (OuSt w φ2 φ2 none 0 ((List.range 0).map (fun i => repI fs es N M l seed k i)) wr) := Lib.hid ⟨i2.toSelf, Own.nil _ _ _ _⟩
      clear hS l2 i2 sD sU
      go_wp2
      go_loopw [15, 69] (fun v i wr => ∃ (q : Nat) (φ' : Phi) (ao : Option Addr) (co : Nat), q ≤ k ∧ v = .slice ao q co ∧ i = .int .i64 q ∧ Hid (φ2.le φ' ∧ OuSt w φ2 φ' ao co ((List.range q).map (fun i => repI fs es N M l seed k i)) wr)) (fun _ i _ => k - (intOf i).toNat)
      case atStart => exact ⟨0, φ2, none, 0, Nat.zero_le _, rfl, rfl, Lib.hid ⟨φ2.le_refl, HW.out⟩⟩
      case round =>
        clear HW
        obtain ⟨q, φ4, ao, co, hq, rfl, rfl, hS⟩ := hrel
        by_cases hlt : q < k
        · have L24 := hS.out.1
          obtain ⟨b3, o3, rfl, f3⟩ := ((sl1.mono L12.out).mono L24).lists hll hlt
          obtain ⟨a4, c4, s4, f3⟩ := f3 q hlt
          have d3 := (f3 wr hS.out.2.inv.fz).2
          have hxl := Lib.hid (HDR.out q hlt)
          rw [hxl.out] at d3
          obtain ⟨⟨⟨f, lw, fo⟩, bb⟩, hlq⟩ : ∃ s, Hid (leastS fs es N M (l.getD q []) = s) := ⟨_, Lib.hid rfl⟩
          have hfo := least_found (rec := l.getD q []) hpq.out
          rw [hlq.out] at hfo
          dsimp only at hfo
          subst hfo
          have hlaw := least_law OK.out hxl.out (l := f) (lw := lw) (by rw [hlq.out])
          have HFR : Hid (∀ x ∈ f, 0 ≤ x ∧ x < (N : Int)) := Lib.hid (fun x hx => freeF_zero hlaw.1 x hx)
          have HFS : Hid (f.length ≠ 0 → (firstS fs es N M (l.getD q []) f).1.length = N) := Lib.hid (fun _ => hlaw.2.2.2.1)
          clear hlaw
          have hord : ∀ x ∈ shufF (seedI seed q) (donK fs es N M l k).length, 0 ≤ x ∧ x < ((donK fs es N M l k).length : Int) := shufF_rng _ _
          have HIO := Lib.hid (impR_ok OK.out hxl.out (f := f) (lw := lw) (by rw [hlq.out]) hord)
          have HRQ := Lib.hid (repI_eq (seed := seed) (N := k) hlq.out)
          obtain ⟨iq, hiq⟩ : ∃ q', Hid (impR fs es N M (l.getD q []) f (donK fs es N M l k) (shufF (seedI seed q) (donK fs es N M l k).length) = q') := ⟨_, Lib.hid rfl⟩
          obtain ⟨nd, hnd⟩ : ∃ j, Hid ((donK fs es N M l k).length = j) := ⟨_, Lib.hid rfl⟩
          have hnd3 : nd ≤ 3000 := by have := HLD.out; rw [hnd.out] at this; omega
          rw [hiq.out] at HRQ HIO
          rw [hnd.out] at hiq HIO
          have HDL2 := Lib.hid HDL.out
          have HLU2 := Lib.hid HLU.out
          rw [hnd.out] at HDL2 HLU2
          obtain ⟨nf, hnf⟩ : ∃ j, Hid (f.length = j) := ⟨_, Lib.hid rfl⟩
          have HV4 := HV2.mono L24
          have C4 := Lib.hid (least_any HV4 wr hS.out.2.inv.fz a4 c4 (l.getD q []) s4 hxl hlq)
          have SD4 := Lib.hid (SD.out.mono L24)
          have SU4 := Lib.hid (SU.out.mono L24)
          have HPW4 := Lib.hid ((HPW.out.mono L12.out).mono L24)
          have hq6 : q < 3000 := by omega
          have hsz : (seedI seed q).size ≤ 200 := by
            have h8 := itoaB_size (n := (q : Int)) (by omega) (by omega)
            show ((seed ++ (⟨#[46]⟩ : ByteArray)) ++ itoaB q).size ≤ 200
            rw [ByteArray.size_append, ByteArray.size_append]
            have : (⟨#[46]⟩ : ByteArray).size = 1 := rfl
            omega
          have HSZ := Lib.hid hsz
          have hI8 := itoaB_size (n := (q : Int)) (by omega) (by omega)
          have S4 := Lib.hid s4
          clear f3 hord s4 hsz L24
          rw [hnd.out]
          go_wp2_with (first
            | (go_at_call 26; refine C4.out.mono ?_; rintro e w5 ⟨φ5, a5, c5, rfl, hi5, s5⟩; rw [hnf.out]; have H5 := Lib.hid (And.intro (hS.out.1.trans hi5.le) (hS.out.2.call hi5)); have L5 := Lib.hid hi5.le; have S5 := Lib.hid s5; have HV5 := HV4.mono hi5.le; clear hi5 s5)
            | (go_at_call 28; refine (Itoa_any (q : Int) (by omega) (by omega) w5 φ5 H5.out.2.inv.fz (HPW4.out.mono L5.out)).mono ?_; rintro e w6 ⟨rfl, hb6⟩; have H6 := Lib.hid (And.intro H5.out.1 (H5.out.2.callB hb6)); clear hb6))
          refine (impute_any HV5 w6 H6.out.2.inv.fz a4 c4 (l.getD q []) (S4.out.mono L5.out) hxl nf a5 c5 f S5.out hnf HFR nd _ _ (donK fs es N M l k) (SD4.out.mono L5.out) hnd hnd3 HDL2 (seedI seed q) (by have := HSZ.out; omega) HFS hiq).mono ?_
          rintro e w7 ⟨φ7, ar, cr, rfl, hi7, s7⟩
          have H7 := Lib.hid (And.intro (H6.out.1.trans hi7.le) (H6.out.2.call hi7))
          have L7 := Lib.hid hi7.le
          have S7 := Lib.hid s7
          have S57 := Lib.hid (S5.out.mono hi7.le)
          have y0 : (w7.alloc (.cells #[.slice ar N cr, .slice a5 nf c5, .int .i64 iq.2] 34)).cell? ⟨w7.heap.size, 0, none⟩ = some (.slice ar N cr) := box_at 0
          have y1 : (w7.alloc (.cells #[.slice ar N cr, .slice a5 nf c5, .int .i64 iq.2] 34)).cell? ⟨w7.heap.size, 1, none⟩ = some (.slice a5 nf c5) := box_at 1
          have y2 : (w7.alloc (.cells #[.slice ar N cr, .slice a5 nf c5, .int .i64 iq.2] 34)).cell? ⟨w7.heap.size, 2, none⟩ = some (.int .i64 iq.2) := box_at 2
          have x2 := (Blk.new w7 #[.slice ar N cr, .slice a5 nf c5, .int .i64 iq.2] 34).frz 2
          clear hi7 s7
          have HLQ : Hid (((List.range q).map (fun i => repI fs es N M l seed k i)).length = q) := Lib.hid (by simp)
          by_cases hneg : iq.2 < 0
          · have g1 : decide (iq.2 ≥ 0) = false := by simp; omega
            have HRR : Hid (repI fs es N M l seed k q = (iq.1, f, iq.2)) := Lib.hid (by have h := HRQ.out; rw [if_neg (by omega)] at h; exact h)
            have H8 := Lib.hid (H7.out.2.callB ((Below.refl _ _).alloc (Nat.le_refl _) (.cells #[.slice ar N cr, .slice a5 nf c5, .int .i64 iq.2] 34)))
            have hin := Lib.hid H8.out.inv
            have hon := Lib.hid H8.out.o
            have hil := Lib.hid HIO.out.2.1
            go_wp2_with (at_builtin; (refine wpList_app1F (α := Rpr) rfl _ _ 27 rfl slRp hin.out ao co _ hon.out _ _ (iq.1, f, iq.2) ⟨[.slice ar N cr], [.slice a5 nf c5, .int .i64 iq.2], rfl, ⟨ar, cr, by rw [hil.out], S7.out⟩, [.slice a5 nf c5], [.int .i64 iq.2], rfl, ⟨a5, c5, by rw [hnf.out], S57.out⟩, rfl⟩ (by rw [HLQ.out]; rfl) 1 (by exact congrArg (fun z => Value.slice (some ⟨z, 0, none⟩) 1 1) (alloc_size w7 (.cells #[.slice ar N cr, .slice a5 nf c5, .int .i64 iq.2] 34)).symm) (by rw [HLQ.out]; omega) ?_; intro a8 c8 w8 hi8 ho8 hg8 hf8))
            go_roundw
            case rel => exact ⟨q + 1, φ7, a8, c8, by omega, rfl, by go_num, by rw [outL_succ, HRR.out]; exact Lib.hid ⟨H7.out.1, hi8, ho8⟩⟩
            case measure => (simp [intOf] <;> omega)
          · obtain ⟨j, hj⟩ : ∃ j : Nat, iq.2 = j := ⟨iq.2.toNat, by omega⟩
            have hjn : j < nd := by have := HIO.out.2.2.2.1; omega
            have HRR : Hid (repI fs es N M l seed k q = (iq.1, f, (numK fs es N M l k).getD j 0)) := Lib.hid (by have h := HRQ.out; rw [if_pos (by omega), hj, show ((j : Int)).toNat = j by omega] at h; exact h)
            have hil := Lib.hid HIO.out.2.1
            rw [hj] at y0 y1 y2 x2 ⊢
            have H8 := Lib.hid (H7.out.2.callB ((Below.refl _ _).alloc (Nat.le_refl _) (.cells #[.slice ar N cr, .slice a5 nf c5, .int .i64 ((numK fs es N M l k).getD j 0)] 34)))
            have hin := Lib.hid H8.out.inv
            have hon := Lib.hid H8.out.o
            obtain ⟨bn, on, hun, fn⟩ := SU4.out.intsD HLU2 hjn
            have dn := (fn j hjn (w7.alloc (.cells #[.slice ar N cr, .slice a5 nf c5, .int .i64 (j : Int)] 34)) ((H7.out.2.inv.fz.alloc _).sub (L5.out.trans L7.out))).2
            subst hun
            have hjU : j < (numK fs es N M l k).length := by rw [HLU2.out]; exact hjn
            have hj0 : (0 : Int) ≤ j := by omega
            have hj3 : j < 3000 := by omega
            have hj := Lib.hid hj
            clear fn
            generalize (numK fs es N M l k).getD j 0 = nv at *
            go_wp2_with (at_builtin; (refine wpList_app1F (α := Rpr) rfl _ _ 27 rfl slRp hin.out ao co _ hon.out _ _ (iq.1, f, nv) ⟨[.slice ar N cr], [.slice a5 nf c5, .int .i64 nv], rfl, ⟨ar, cr, by rw [hil.out], S7.out⟩, [.slice a5 nf c5], [.int .i64 nv], rfl, ⟨a5, c5, by rw [hnf.out], S57.out⟩, rfl⟩ (by rw [HLQ.out]; rfl) 1 (by exact congrArg (fun z => Value.slice (some ⟨z, 0, none⟩) 1 1) (alloc_size w7 (.cells #[.slice ar N cr, .slice a5 nf c5, .int .i64 nv] 34)).symm) (by rw [HLQ.out]; omega) ?_; intro a8 c8 w8 hi8 ho8 hg8 hf8))
            go_roundw
            case rel => exact ⟨q + 1, φ7, a8, c8, by omega, rfl, by go_num, by rw [outL_succ, HRR.out]; exact Lib.hid ⟨H7.out.1, hi8, ho8⟩⟩
            case measure => (simp [intOf] <;> omega)
        · obtain rfl : q = k := by omega
          obtain ⟨φ9, l9, i9, s9, _⟩ := hS.out.2.o.release hS.out.2.inv
          have HI9 := Lib.hid i9
          have S9 := Lib.hid s9
          have HLN : Hid (((List.range q).map (fun i => repI fs es N M l seed q i)).length = q) := Lib.hid (by simp)
          clear l9 i9 s9 hS
          go_wp2
          go_ret2
          obtain rfl := HF.out
          obtain rfl := HO.out
          exact ⟨φ9, ao, co, congrArg (fun k => Ending.returned (.tuple #[.slice ao k co, .int .i64 0])) HLN.out.symm, HI9.out.cat' HLE.out HNW.out, S9.out⟩
end Go.Proofs.YtkfmadeeobalaaaDoor
