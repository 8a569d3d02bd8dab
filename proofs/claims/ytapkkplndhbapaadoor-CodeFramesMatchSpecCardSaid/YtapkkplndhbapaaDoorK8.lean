/- The walks of meeting and Meeting. Conditions: the tree is in memory as told. -/
import Derived.Test.YtapkkplndhbapaaDoorK7
import Derived.Test.YtapkkplndhbapaaDoorFm
namespace Go.Proofs.YtapkkplndhbapaaDoor
open Go.RowKit
set_option linter.unusedVariables false

theorem meet_at {l : List Nod} {a b : Int} {xs : List Int} {n k : Nat} (hx : xs = upL l a ++ [0]) (hn : xs.length = n) (hk : k < n) (hz : ∀ i, i < k → ¬ (xs.getD i 0 = 0 ∨ xs.getD i 0 ∈ upL l b)) (hp : xs.getD k 0 = 0 ∨ xs.getD k 0 ∈ upL l b) : meetOf l a b = xs.getD k 0 := by
  have hk' : k < xs.length := by omega
  have : xs.find? (fun x => decide (x = 0 ∨ x ∈ upL l b)) = some (xs.getD k 0) := by
    rw [List.find?_eq_some_iff_getElem]
    refine ⟨by simpa using hp, k, hk', by rw [getD_elem0 _ _ _ hk'], fun j hj => ?_⟩
    have := hz j hj
    rw [getD_elem0 _ _ _ (by omega)] at this
    simpa using this
  unfold meetOf
  rw [← hx, this]; rfl
theorem lvF_at {l : List Nod} {n : Nat} (h : TrOk l n) {c : Int} (hc : c = 0 ∨ (ix l c).isSome = true) : lvF l c = some (lvl l c : Int) ∧ lvl l c ≤ 8 := by
  rcases hc with rfl | hc
  · rw [lvl_zero]; unfold lvF lvK; simp
  · obtain ⟨i, hi, he, _⟩ := h.up hc
    obtain ⟨m, hm, h8⟩ := h.lev i hi
    have := lvF_of h.toFrOk hi hm
    rw [he] at this hm
    rw [lvl_of (by rw [h.len]; exact hm)]
    exact ⟨this, h8⟩
theorem upA_vld {l : List Nod} {n : Nat} (h : TrOk l n) : ∀ {m : Nat} {c x : Int}, lvA l n c = some m → (c = 0 ∨ (ix l c).isSome = true) → x ∈ upA l m c → (ix l x).isSome = true
  | 0, c, x, hm, hc, hx => by simp [upA] at hx
  | m + 1, c, x, hm, hc, hx => by
    obtain ⟨h0, h1⟩ := lvA_step hm
    have hc := hc.resolve_left h0
    obtain ⟨_, _, _, _, _, hp⟩ := h.up hc
    rw [upA] at hx
    rcases List.mem_cons.1 hx with rfl | hx
    · exact hc
    · exact upA_vld h h1 hp hx
theorem upL_vld {l : List Nod} {n : Nat} (h : TrOk l n) {c x : Int} (hc : c = 0 ∨ (ix l c).isSome = true) (hx : x ∈ upL l c) : (ix l x).isSome = true := by
  obtain ⟨m, hm, _⟩ := h.lv hc
  rw [(upL_eq h.len hm).1] at hx
  exact upA_vld h hm hc hx
theorem upL_len {l : List Nod} {n : Nat} (h : TrOk l n) {c : Int} (hc : c = 0 ∨ (ix l c).isSome = true) : (upL l c).length ≤ 8 := by
  obtain ⟨m, hm, h8⟩ := h.lv hc
  rw [(upL_eq h.len hm).1]
  have : ∀ (m : Nat) (c : Int), (upA l m c).length = m := by
    intro m
    induction m with
    | zero => intro c; rfl
    | succ m ih => intro c; rw [upA, List.length_cons, ih]
  rw [this]; exact h8

theorem code_lv {l : List Nod} {n : Nat} (h : TrOk l n) {c : Int} (hc : (ix l c).isSome = true) : (∃ m, lvA l n c = some m ∧ m ≤ 8) ∧ c ≠ 0 := by
  refine ⟨h.lv (.inr hc), ?_⟩
  obtain ⟨i, hi, he, _⟩ := h.up hc
  have := (h.rng i hi).1
  omega
theorem lvl_par {l : List Nod} {n : Nat} (h : TrOk l n) {c : Int} (hc : (ix l c).isSome = true) : lvl l c = lvl l (parC l c) + 1 ∧ upL l c = c :: upL l (parC l c) := by
  obtain ⟨⟨m, hm, _⟩, h0⟩ := code_lv h hc
  obtain ⟨j, rfl⟩ := lvA_pos hm h0
  have h1 := (lvA_step hm).2
  obtain ⟨e1, e2⟩ := upL_eq h.len hm
  obtain ⟨e3, e4⟩ := upL_eq h.len h1
  exact ⟨by omega, by rw [e1, e3, upA]⟩

set_option maxHeartbeats 1000000 in
theorem meeting_any {w : World} {bt : Nat} {a : Option Addr} {c n m1 m2 : Nat} {l : List Nod} {φ : Phi} (hφ : Fz φ w) (s : SlV φ a c l) (ht : TreeW w bt a c n m1 m2 (atF l) (lvF l)) (hok : Hid (TrOk l n)) (x y : Int) (hx : (ix l x).isSome = true) (hy : (ix l y).isSome = true) :
    Calls Tryd.prog 34 #[.pointer (some ⟨bt, 0, none⟩), .int .i64 x, .int .i64 y] w fun e w' => e = .returned (.tuple #[.int .i64 (meetOf l x y), .int .i64 (distOf l x y)]) ∧ Below w.heap.size w w' := by
  have hn : Hid (l.length = n) := Lib.hid hok.out.len
  have HT := Lib.hid ht
  have HX := Lib.hid hx
  have HY := Lib.hid hy
  clear ht hx hy
  go_enter Tryd.func34, Tryd.ntmps34
  go_wp2_with fail
  refine (up_any hφ s HT.out hok y (.inr HY.out)).mono ?_
  rintro e w1 ⟨ay, cy, φ1, rfl, hi1, ho1⟩
  obtain ⟨φ2, hle, hi2, sy, _⟩ := ho1.release hi1
  have I2 := Lib.hid hi2
  have HT2 := Lib.hid (HT.out.callB hi2.bel)
  have s2 := s.mono (hi2.le)
  have hly := upL_len hok.out (.inr HY.out)
  obtain ⟨ny, hny⟩ : ∃ ny, Hid ((upL l y).length = ny) := ⟨_, Lib.hid rfl⟩
  rw [hny.out] at hly ⊢
  clear hi1 ho1 hi2 hle
  go_wp2_with fail
  refine (up_any I2.out.fz s2 HT2.out hok x (.inr HX.out)).mono ?_
  rintro e w3 ⟨ax, cx, φ3, rfl, hi3, ho3⟩
  have hlx := upL_len hok.out (.inr HX.out)
  obtain ⟨xs0, hxs0⟩ : ∃ xs0, Hid (upL l x = xs0) := ⟨_, Lib.hid rfl⟩
  rw [hxs0.out] at hlx ho3 ⊢
  go_wp2_with (at_builtin; refine wpList_app1 (α := Int) rfl _ _ 27 rfl slI hi3 ax cx _ ho3 _ _ 0 rfl rfl 1 rfl (by omega) ?_; intro a2 cap2 w4 hi4 hown4 hgr)
  obtain ⟨φ5, hle5, hi5, sx, _⟩ := hown4.release hi4
  have I5 := Lib.hid (I2.out.call hi5)
  have HT5 := Lib.hid (HT2.out.callB hi5.bel)
  have sy5 := sy.mono hi5.le
  obtain ⟨xs, hxs⟩ : ∃ xs, Hid (xs0 ++ [0] = xs) := ⟨_, Lib.hid rfl⟩
  have hxl : Hid (xs.length = xs0.length + 1) := Lib.hid (by rw [← hxs.out]; simp)
  rw [hxs.out] at sx
  have hfz := Lib.hid (I5.out.fz)
  clear hi3 ho3 hi4 hown4 hgr hi5 hle5
  generalize hnx : xs0.length + 1 = nx at *
  go_wp2
  go_loopw [20] (fun i wr => ∃ k : Nat, k ≤ nx ∧ i = .int .i64 k ∧ Hid (∀ i, i < k → ¬ (xs.getD i 0 = 0 ∨ xs.getD i 0 ∈ upL l y)) ∧ wr = w4) (fun i _ => nx - (intOf i).toNat)
  case atStart => exact ⟨0, Nat.zero_le _, by simp, Lib.hid (fun i hi => by omega), rfl⟩
  case round =>
    obtain ⟨k, hk, rfl, hz, rfl⟩ := hrel
    have hxe : Hid (xs = upL l x ++ [0]) := Lib.hid (by rw [hxs0.out, hxs.out])
    have hlt : k < nx := by
      rcases Nat.lt_or_ge k nx with h | h
      · exact h
      · exfalso
        have h0 : xs.getD (nx - 1) 0 = 0 := by rw [← hxs.out, ← hnx]; simp
        exact hz.out (nx - 1) (by omega) (.inl h0)
    obtain ⟨b, off, rfl, f⟩ := sx.intsD hxl hlt
    obtain ⟨hb, c1⟩ := f k hlt _ hfz.out
    clear f
    have hme : Hid ((xs.getD k 0 = 0 ∨ xs.getD k 0 ∈ upL l y) → meetOf l x y = xs.getD k 0) := Lib.hid (fun h => meet_at hxe.out hxl.out hlt hz.out h)
    have hvl : Hid (xs.getD k 0 = 0 ∨ (ix l (xs.getD k 0)).isSome = true) := Lib.hid (by
      by_cases h0 : xs.getD k 0 = 0
      · exact .inl h0
      · have : xs.getD k 0 ∈ xs := by rw [getD_elem0 _ _ _ (by rw [hxl.out]; exact hlt)]; exact List.getElem_mem _
        have hmem : ∀ v, v ∈ xs → v ∈ upL l x ∨ v = 0 := fun v hv => by rw [hxe.out] at hv; simpa using hv
        rcases hmem _ this with h1 | h1
        · exact .inr (upL_vld hok.out (.inr HX.out) h1)
        · exact absurd h1 h0)
    have hnz : Hid (¬ (xs.getD k 0 = 0 ∨ xs.getD k 0 ∈ upL l y) → ∀ i, i < k + 1 → ¬ (xs.getD i 0 = 0 ∨ xs.getD i 0 ∈ upL l y)) := Lib.hid (fun h i hi => by
      by_cases e : i = k
      · subst e; exact h
      · exact hz.out i (by omega))
    have hxx : Hid (xs.getD k 0 = xs.getD k 0) := Lib.hid rfl
    clear hz
    generalize xs.getD k 0 = z at *
    have fin : Hid ((z = 0 ∨ z ∈ upL l y) → ∃ lx ly lz : Nat, lx ≤ 8 ∧ ly ≤ 8 ∧ lz ≤ 8 ∧ lvF l x = some (lx : Int) ∧ lvF l y = some (ly : Int) ∧ lvF l z = some (lz : Int) ∧ distOf l x y = (lx : Int) + ly - 2 * lz) := Lib.hid (fun h => by
      have q1 := lvF_at hok.out (.inr HX.out)
      have q2 := lvF_at hok.out (.inr HY.out)
      have q3 := lvF_at hok.out hvl.out
      exact ⟨_, _, _, q1.2, q2.2, q3.2, q1.1, q2.1, q3.1, by rw [distOf, hme.out h]⟩)
    by_cases h0 : z = 0
    · have P : Hid (z = 0 ∨ z ∈ upL l y) := Lib.hid (.inl h0)
      have hg : ((z : Int) == 0) = true := by simp [h0]
      clear h0
      obtain ⟨lx, ly, lz, b1, b2, b3, q1, q2, q3, hd⟩ := fin.out P.out
      replace hd := Lib.hid hd
      replace q1 := Lib.hid q1
      replace q2 := Lib.hid q2
      replace q3 := Lib.hid q3
      have e2 := HT5.out.blk.cell 2
      simp at e2
      have HL1 : ∀ q, (Instr.lookup 79 (.map (some m2)) (.int .i64 x) false).run Tryd.prog (wr.drewN q) = .ok (.int .i64 (lx : Int)) (wr.drewN q) := fun q => by have := (HT5.out.lev.drewN q).look_no x; rwa [q1.out] at this
      have HL2 : ∀ q, (Instr.lookup 79 (.map (some m2)) (.int .i64 y) false).run Tryd.prog (wr.drewN q) = .ok (.int .i64 (ly : Int)) (wr.drewN q) := fun q => by have := (HT5.out.lev.drewN q).look_no y; rwa [q2.out] at this
      have HL3 : ∀ q, (Instr.lookup 79 (.map (some m2)) (.int .i64 z) false).run Tryd.prog (wr.drewN q) = .ok (.int .i64 (lz : Int)) (wr.drewN q) := fun q => by have := (HT5.out.lev.drewN q).look_no z; rwa [q3.out] at this
      have w1e : IntKind.i64.wrap ((lx : Int) + ly) = lx + ly := IntWalk.i64_in _ (by omega)
      have w2e : IntKind.i64.wrap (2 * (lz : Int)) = 2 * lz := IntWalk.i64_in _ (by omega)
      have w3e : IntKind.i64.wrap ((lx : Int) + ly - 2 * lz) = lx + ly - 2 * lz := IntWalk.i64_in _ (by omega)
      have w4e : True := trivial
      go_wp2
      go_quiet (fail)
      clear HL1 HL2 HL3 w1e w2e w3e w4e
      go_wp2
      go_ret2
      exact ⟨by rw [hme.out P.out, hd.out]; rfl, bdrewN I5.out.bel _⟩
    have hg : ((z : Int) == 0) = false := by simp [h0]
    have H0 := Lib.hid h0
    clear h0
    by_cases hin : z ∈ upL l y
    · have P : Hid (z = 0 ∨ z ∈ upL l y) := Lib.hid (.inr hin)
      have HIN := Lib.hid hin
      clear hin
      go_wp2_with fail
      refine (Contains_t ny ay cy (upL l y) z _ _ hfz.out sy5 hny (by omega) HIN.out).mono ?_
      rintro e w' ⟨rfl, rfl⟩
      obtain ⟨lx, ly, lz, b1, b2, b3, q1, q2, q3, hd⟩ := fin.out P.out
      replace hd := Lib.hid hd
      replace q1 := Lib.hid q1
      replace q2 := Lib.hid q2
      replace q3 := Lib.hid q3
      have e2 := HT5.out.blk.cell 2
      simp at e2
      have HL1 : ∀ q, (Instr.lookup 79 (.map (some m2)) (.int .i64 x) false).run Tryd.prog (wr.drewN q) = .ok (.int .i64 (lx : Int)) (wr.drewN q) := fun q => by have := (HT5.out.lev.drewN q).look_no x; rwa [q1.out] at this
      have HL2 : ∀ q, (Instr.lookup 79 (.map (some m2)) (.int .i64 y) false).run Tryd.prog (wr.drewN q) = .ok (.int .i64 (ly : Int)) (wr.drewN q) := fun q => by have := (HT5.out.lev.drewN q).look_no y; rwa [q2.out] at this
      have HL3 : ∀ q, (Instr.lookup 79 (.map (some m2)) (.int .i64 z) false).run Tryd.prog (wr.drewN q) = .ok (.int .i64 (lz : Int)) (wr.drewN q) := fun q => by have := (HT5.out.lev.drewN q).look_no z; rwa [q3.out] at this
      have w1e : IntKind.i64.wrap ((lx : Int) + ly) = lx + ly := IntWalk.i64_in _ (by omega)
      have w2e : IntKind.i64.wrap (2 * (lz : Int)) = 2 * lz := IntWalk.i64_in _ (by omega)
      have w3e : IntKind.i64.wrap ((lx : Int) + ly - 2 * lz) = lx + ly - 2 * lz := IntWalk.i64_in _ (by omega)
      have w4e : True := trivial
      go_wp2
      go_quiet (fail)
      clear HL1 HL2 HL3 w1e w2e w3e w4e
      go_wp2
      go_ret2
      exact ⟨by rw [hme.out P.out, hd.out]; rfl, bdrewN I5.out.bel _⟩
    · have HIN := Lib.hid hin
      clear hin
      go_wp2_with fail
      refine (Contains_f ny ay cy (upL l y) z _ _ hfz.out sy5 hny (by omega) HIN.out).mono ?_
      rintro e w' ⟨rfl, rfl⟩
      go_wp2
      go_roundw
      case rel => exact ⟨k + 1, by omega, by go_num, Lib.hid (hnz.out (fun h => h.elim H0.out HIN.out)), trivial⟩
      case measure => simp [intOf]; omega

theorem pair_row {w : World} {φ : Phi} (hφ : Fz φ w) (x y : Int) (T : TypeId) : ∃ φ', φ.le φ' ∧ Fz φ' (w.alloc (.cells #[.int .i64 x, .int .i64 y] T)) ∧ SlV φ' (some ⟨w.heap.size, 0, none⟩) 2 [x, y] := by
  have hnone : φ w.heap.size = none := by
    cases h : φ w.heap.size with
    | none => rfl
    | some o => have := hφ.mlt h; omega
  refine ⟨φ.upd w.heap.size (.cells #[.int .i64 x, .int .i64 y] T), φ.le_upd _ _ hnone, (hφ.alloc _).upd (heap_alloc_new w _), ⟨by simp, by simp [maxLen], fun h => (by cases h), fun _ => ⟨w.heap.size, 0, rfl, fun k hk => ?_⟩⟩⟩
  have hk2 : k = 0 ∨ k = 1 := by simp at hk; omega
  rcases hk2 with rfl | rfl
  · refine ⟨[.int .i64 x], rfl, fun j hj => ?_⟩
    have : j = 0 := by simp at hj; omega
    subst this
    simp [Phi.cell?, Phi.upd, Rep.size]
  · refine ⟨[.int .i64 y], rfl, fun j hj => ?_⟩
    have : j = 0 := by simp at hj; omega
    subst this
    simp [Phi.cell?, Phi.upd, Rep.size]
noncomputable def meetF (l : List Nod) (x y : Int) : Int × Int × Int := if codedF l [x, y] ≠ 0 then (0, 0, codedF l [x, y]) else (meetOf l x y, distOf l x y, 0)
def tup3 (r : Int × Int × Int) : Value := .tuple #[.int .i64 r.1, .int .i64 r.2.1, .int .i64 r.2.2]

theorem Meeting_any {w : World} {a : Option Addr} {c n : Nat} {l : List Nod} {φ : Phi} (hφ : Fz φ w) (s : SlV φ a c l) (hn : Hid (l.length = n)) (hm : n ≤ 9223372036854775807) (x y : Int) :
    Calls Tryd.prog 15 #[.slice a n c, .int .i64 x, .int .i64 y] w fun e w' => e = .returned (tup3 (meetF l x y)) ∧ Below w.heap.size w w' := by
  go_enter Tryd.func15, Tryd.ntmps15
  go_wp2_with fail
  obtain ⟨φ1, hle, hf1, sp⟩ := pair_row hφ x y 3
  refine (coded_any hf1 (s.mono hle) hn hm sp (Lib.hid rfl) (by simp)).mono ?_
  have hb0 : Below w.heap.size w (w.alloc (.cells #[.int .i64 x, .int .i64 y] 3)) := (Below.refl _ _).alloc (Nat.le_refl _) _
  rintro e w1 ⟨hb, ⟨h0, rfl⟩ | ⟨h0, hok, hv, bt, m1, m2, rfl, ht⟩⟩
  · obtain ⟨q, hq⟩ : ∃ q, Hid (codedF l [x, y] = q) := ⟨_, Lib.hid rfl⟩
    rw [hq.out] at h0 ⊢
    have hg : ((q : Int) != 0) = true := by simp [h0]
    have H0 := Lib.hid h0
    have HB := Lib.hid (hb0.trans (hb.mono hb0.size))
    clear h0 hb hb0 sp hf1
    go_wp2
    refine bodyPost_ret (v := tup3 (0, 0, q)) (by simp [results, Tryd.results15, go_sem, tup3]) rfl ⟨?_, HB.out⟩
    rw [meetF, hq.out, if_pos H0.out]
  · have H0 := Lib.hid h0
    have HB := Lib.hid (hb0.trans (hb.mono hb0.size))
    have HO := Lib.hid hok
    have HF := Lib.hid (hf1.below hb)
    have HT := Lib.hid ht
    have hx : Hid ((ix l x).isSome = true) := Lib.hid (by simpa using hv 0 (by simp))
    have hy : Hid ((ix l y).isSome = true) := Lib.hid (by simpa using hv 1 (by simp))
    have s1 := s.mono hle
    clear h0 hb hb0 hok ht sp hf1 hv
    go_wp2_with fail
    refine (meeting_any HF.out s1 HT.out HO x y hx.out hy.out).mono ?_
    rintro e w2 ⟨rfl, hb⟩
    have HB2 := Lib.hid (HB.out.trans (hb.mono HB.out.size))
    clear hb
    obtain ⟨m, hme⟩ : ∃ m, Hid (meetOf l x y = m) := ⟨_, Lib.hid rfl⟩
    obtain ⟨d, hde⟩ : ∃ d, Hid (distOf l x y = d) := ⟨_, Lib.hid rfl⟩
    rw [hme.out, hde.out]
    go_wp2
    refine bodyPost_ret (v := tup3 (m, d, 0)) (by simp [results, Tryd.results15, go_sem, tup3]) rfl ⟨?_, HB2.out⟩
    rw [meetF, if_neg (by rw [H0.out]; simp), hme.out, hde.out]
end Go.Proofs.YtapkkplndhbapaaDoor
