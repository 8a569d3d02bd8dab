/- The walk of Lift. Conditions: none beyond what the claim form gives. -/
import Derived.Test.YthnmglckhfajeaaK10
import Derived.Test.YthnmglckhfajeaaK9
namespace Go.Proofs.Ythnmglckhfajeaa
open Go.RowKit
set_option linter.unusedVariables false

/-- The code of at most a level. -/
def liftC (l : List Nod) (lev : Nat) (c : Int) : Int := (upL l c).getD (lvl l c - lev) 0
def liftX (l : List Nod) (lev : Nat) (x : Cdg) : Cdg := (x.1, x.2.1, liftC l lev x.2.2)
noncomputable def liftF (l : List Nod) (cs : List Cdg) (lev : Int) : List Cdg × Int :=
  if frcF l cs ≠ 0 then ([], frcF l cs) else if outB lev 1 8 = true then ([], 1) else (cs.map (liftX l lev.toNat), 0)
section
variable {l : List Nod} {n : Nat}
theorem lvl_par (h : TrOk l n) {c : Int} (hc : (ix l c).isSome = true) : lvl l c = lvl l (parC l c) + 1 ∧ upL l c = c :: upL l (parC l c) := by
  obtain ⟨⟨m, hm, _⟩, h0⟩ := code_lv h hc
  obtain ⟨j, rfl⟩ := lvA_pos hm h0
  have h1 := (lvA_step hm).2
  obtain ⟨e1, e2⟩ := upL_eq h.len hm
  obtain ⟨e3, e4⟩ := upL_eq h.len h1
  exact ⟨by omega, by rw [e1, e3, upA]⟩
theorem liftC_stop (h : TrOk l n) {c : Int} (hc : (ix l c).isSome = true) {lev : Nat} (hl : lvl l c ≤ lev) : liftC l lev c = c := by
  unfold liftC
  rw [show lvl l c - lev = 0 by omega, (lvl_par h hc).2]; rfl
theorem liftC_step (h : TrOk l n) {c : Int} (hc : (ix l c).isSome = true) {lev : Nat} (hl : lev < lvl l c) : liftC l lev c = liftC l lev (parC l c) := by
  unfold liftC
  obtain ⟨e1, e2⟩ := lvl_par h hc
  rw [e2, show lvl l c - lev = (lvl l (parC l c) - lev) + 1 by omega]; rfl
end
def SlPost {α : Type} [Rep α] (r : List α × Int) (φ : Phi) (w : World) (e : Ending) (w' : World) : Prop :=
  ∃ a cap φ', e = .returned (.tuple #[.slice a r.1.length cap, .int .i64 r.2]) ∧ Inv w.heap.size w φ φ' w' ∧ SlV φ' a cap r.1

theorem slC : SliceTy Try.prog 27 32 (.agg #[.int .i64 0, .int .i64 0, .int .i64 0]) (Rep.size Cdg) 24 := ⟨Try.underlying27, by kernel_rfl, rfl, by decide, by decide⟩
theorem cdg_ok {l : List Nod} {cs : List Cdg} {n : Nat} (hn : Hid (cs.length = n)) (h : frcF l cs = 0) : n ≤ 20000 ∧ treeF l = 0 ∧ ∀ k, k < n → (ix l (cs.getD k cdg0).2.2).isSome = true := by
  unfold frcF at h
  split at h
  · next h1 => exact absurd h h1
  next h1 =>
    unfold cdgF at h
    rw [hn.out] at h
    split at h
    · cases h
    next h2 =>
      refine ⟨by omega, by simpa using h1, fun k hk => ?_⟩
      have hb := scan_all _ h k hk
      unfold cdgBad at hb
      cases hx : (ix l (cs.getD k cdg0).2.2).isSome
      · exfalso
        rw [hx] at hb
        split at hb
        · cases hb
        · split at hb
          · cases hb
          · simp at hb
      · rfl
/-- A call's own slice and worlds. -/
structure OwSt {α : Type} [Rep α] (w0 : World) (φ : Phi) (E : TypeId) (ao : Option Addr) (co : Nat) (out : List α) (wr : World) : Prop where
  inv : Inv w0.heap.size w0 φ φ wr
  own : Own w0.heap.size φ wr E ao co out
theorem OwSt.alloc {α : Type} [Rep α] {w0 wr : World} {φ : Phi} {E : TypeId} {ao : Option Addr} {co : Nat} {out : List α} (h : OwSt w0 φ E ao co out wr) (o : Obj) : OwSt w0 φ E ao co out (wr.alloc o) := ⟨h.inv.alloc o, h.own.alloc o⟩
theorem OwSt.drewN {α : Type} [Rep α] {w0 wr : World} {φ : Phi} {E : TypeId} {ao : Option Addr} {co : Nat} {out : List α} (h : OwSt w0 φ E ao co out wr) (q : Nat) : OwSt w0 φ E ao co out (wr.drewN q) := ⟨h.inv.drewN q, h.own.drewN q⟩
theorem OwSt.callB {α : Type} [Rep α] {w0 wr w' : World} {φ : Phi} {E : TypeId} {ao : Option Addr} {co : Nat} {out : List α} (h : OwSt w0 φ E ao co out wr) (hb : Below wr.heap.size wr w') : OwSt w0 φ E ao co out w' := ⟨h.inv.callB hb, h.own.callB hb⟩
/-- A store into a block of the call's own that is not the slice's. -/
theorem OwSt.set {α : Type} [Rep α] {w0 wr : World} {φ : Phi} {E : TypeId} {ao : Option Addr} {co : Nat} {out : List α} (h : OwSt w0 φ E ao co out wr) {g off : Nat} (hg : w0.heap.size ≤ g) (hφ : φ g = none) (ha : ∀ x, ao = some x → x.block ≠ g) (u : Value) : OwSt w0 φ E ao co out (wr.setCell ⟨g, off, none⟩ u) :=
  ⟨h.inv.setCell hg hφ u, h.own.other (row := some g) ⟨rfl, rfl, rfl, by simp [World.setCell], fun k _ hk => Below.heap_setCell _ _ _ _ (by intro e; exact hk (by rw [e]))⟩ (fun x hx e => ha x hx (by cases e; rfl))⟩
set_option maxRecDepth 100000 in
set_option maxHeartbeats 1000000 in
theorem Lift_any {w : World} {a : Option Addr} {c n : Nat} {l : List Nod} {φ : Phi} (hφ : Fz φ w) (s : SlV φ a c l) (hn : Hid (l.length = n)) (hm : n ≤ 9223372036854775807) {ac : Option Addr} {cc nc : Nat} {cs : List Cdg} (sc : SlV φ ac cc cs) (hnc : Hid (cs.length = nc)) (hmc : nc ≤ 9223372036854775807) (lev : Int) :
    Calls Try.prog 9 #[.slice a n c, .slice ac nc cc, .int .i64 lev] w (SlPost (liftF l cs lev) φ w) := by
  go_enter Try.func9, Try.ntmps9
  go_wp2_with fail
  refine (coders_any hφ s hn hm sc hnc hmc).mono ?_
  rintro e w1 ⟨hb, ⟨h0, p, rfl⟩ | ⟨h0, hok, bt, m1, m2, rfl, ht⟩⟩
  · obtain ⟨q, hq⟩ : ∃ q, Hid (frcF l cs = q) := ⟨_, Lib.hid rfl⟩
    rw [hq.out] at h0 ⊢
    have hg : ((q : Int) != 0) = true := by simp [h0]
    have H0 := Lib.hid h0
    have HB := Lib.hid hb
    clear h0 hb
    go_wp2
    go_ret2
    exact ⟨none, 0, φ, by rw [liftF, hq.out, if_pos H0.out]; rfl, (Inv.start hφ).callB HB.out, by rw [liftF, hq.out, if_pos H0.out]; exact SlV.empty _⟩
  have H0 := Lib.hid h0
  have HB := Lib.hid hb
  have HO := Lib.hid hok
  have HT := Lib.hid ht
  clear h0 hb hok ht
  by_cases h1 : outB lev 1 8 = true
  · have H1 := Lib.hid h1
    clear h1
    go_wp2_with fail
    refine (outside_t _ _ _ _ H1.out).mono ?_
    rintro e w' ⟨rfl, rfl⟩
    go_wp2
    go_ret2
    have e : liftF l cs lev = ([], 1) := by rw [liftF, H0.out, if_neg (by simp), if_pos H1.out]
    exact ⟨none, 0, φ, by rw [e]; rfl, (Inv.start hφ).callB HB.out, by rw [e]; exact SlV.empty _⟩
  have H1 := Lib.hid (Bool.not_eq_true _ ▸ h1 : outB lev 1 8 = false)
  have hlev := outB_false.1 H1.out
  clear h1
  go_wp2_with fail
  refine (outside_f _ _ _ _ H1.out).mono ?_
  rintro e w' ⟨rfl, rfl⟩
  have e : Hid (liftF l cs lev = (cs.map (liftX l lev.toNat), 0)) := Lib.hid (by rw [liftF, H0.out, if_neg (by simp), if_neg (by rw [H1.out]; simp)])
  obtain ⟨hn2, _, hix⟩ := cdg_ok hnc H0.out
  have HIX := Lib.hid hix
  clear hix
  have hSt : Hid (OwSt w1 φ 32 none 0 ((cs.take 0).map (liftX l lev.toNat)) w1) := Lib.hid ⟨Inv.start (hφ.below HB.out), Own.nil _ _ _ _⟩
  go_wp2
  go_loopw [10, 26] (fun o i wr => ∃ (k : Nat) (ao : Option Addr) (co : Nat), k ≤ nc ∧ i = .int .i64 k ∧ o = .slice ao k co ∧ Hid (OwSt w1 φ 32 ao co ((cs.take k).map (liftX l lev.toNat)) wr)) (fun _ i _ => nc - (intOf i).toNat)
  case atStart => exact ⟨0, none, 0, Nat.zero_le _, rfl, rfl, hSt⟩
  case round =>
    clear hSt
    obtain ⟨k, ao, co, hk, rfl, rfl, hSt⟩ := hrel
    by_cases hlt : k < nc
    · obtain ⟨b, off, rfl, f⟩ := sc.cdgD hnc hlt
      obtain ⟨hb, c1, c2, c3⟩ := f k hlt wr hSt.out.inv.fz
      have hix := Lib.hid (HIX.out k hlt)
      have htk : Hid ((cs.take (k + 1)).map (liftX l lev.toNat) = (cs.take k).map (liftX l lev.toNat) ++ [((cs.getD k cdg0).1, (cs.getD k cdg0).2.1, liftC l lev.toNat (cs.getD k cdg0).2.2)]) := Lib.hid (by rw [take_snocD cdg0 cs k nc hnc.out hlt, List.map_append]; rfl)
      clear f
      generalize (cs.getD k cdg0).1 = x1 at *
      generalize (cs.getD k cdg0).2.1 = x2 at *
      generalize (cs.getD k cdg0).2.2 = x3 at *
      have hbB : w1.heap.size ≤ wr.heap.size := hSt.out.inv.size
      have hao := Lib.hid hSt.out.own.lt
      have hB0 := Lib.hid (Blk.new wr #[.int .i64 x1, .int .i64 x2, .int .i64 x3] 32)
      have hφn : Hid (φ wr.heap.size = none) := Lib.hid (by
        cases h : φ wr.heap.size with
        | none => rfl
        | some o => have := hSt.out.inv.fz.mlt h; omega)
      have hS1 : Hid (OwSt w1 φ 32 ao co ((cs.take k).map (liftX l lev.toNat)) (wr.alloc (.cells #[.int .i64 x1, .int .i64 x2, .int .i64 x3] 32))) := Lib.hid (hSt.out.alloc _)
      go_wp2
      generalize wr.alloc (.cells #[.int .i64 x1, .int .i64 x2, .int .i64 x3] 32) = wo at *
      generalize wr.heap.size = bx at *
      clear hSt c1 c2 c3 hb
      go_loopw [] (fun wi => ∃ cur : Int, Hid ((ix l cur).isSome = true) ∧ Hid (liftC l lev.toNat cur = liftC l lev.toNat x3) ∧ Hid (OwSt w1 φ 32 ao co ((cs.take k).map (liftX l lev.toNat)) wi) ∧ Hid (Blk wi bx #[.int .i64 x1, .int .i64 x2, .int .i64 cur] 32)) (fun wi => lvl l (intOf ((wi.cell? ⟨bx, 2, none⟩).getD undef)))
      case atStart => exact ⟨x3, hix, Lib.hid rfl, hS1, hB0⟩
      case round =>
        clear hS1 hB0
        rename World => wi
        obtain ⟨cur, hcx, hlc, hS, hB⟩ := hrel
        have b0 : wi.cell? ⟨bx, 2, none⟩ = some (.int .i64 cur) := hB.out.cell 2
        have q0 := Lib.hid (lvF_at HO.out (.inr hcx.out))
        have HT2 := Lib.hid (HT.out.callB hS.out.inv.bel)
        have e0 := HT2.out.blk.cell 0
        have e1 := HT2.out.blk.cell 1
        have e2 := HT2.out.blk.cell 2
        simp at e0 e1 e2
        have HL : ∀ q, (Instr.lookup 64 (.map (some m2)) (.int .i64 cur) false).run Try.prog (wi.drewN q) = .ok (.int .i64 (lvl l cur : Int)) (wi.drewN q) := fun q => by have := (HT2.out.lev.drewN q).look_no cur; rwa [q0.out.1] at this
        by_cases hgt : lev.toNat < lvl l cur
        · have hg : decide ((lvl l cur : Int) > lev) = true := decide_eq_true (by omega)
          obtain ⟨i, hi1, hi2, hi3, hi4, hi5⟩ := HO.out.up hcx.out
          have hix2 : Hid (atF l cur = some (i : Int)) := Lib.hid (by
            have := HO.out.ix_of hi1
            rw [hi2] at this
            exact atF_some this)
          have hnz : Hid (lvl l cur = lvl l (parC l cur) + 1) := Lib.hid (lvl_par HO.out hcx.out).1
          have hst := Lib.hid (liftC_step HO.out hcx.out hgt)
          have hpv : Hid ((ix l (parC l cur)).isSome = true) := Lib.hid (by
            rcases hi5 with h | h
            · exfalso
              have := hnz.out
              rw [h, lvl_zero] at this; omega
            · exact h)
          replace hi4 := Lib.hid hi4
          clear hi2 hi3 hi5
          obtain ⟨b', off', rfl, f⟩ := s.nodesD hn hi1
          have hin : (i : Int) < n := by omega
          have c2 : wi.cell? ⟨b', off' + i * 3 + 1, none⟩ = some (.int .i64 (parC l cur)) := by rw [hi4.out]; exact (f i hi1 wi hS.out.inv.fz).2.2.1
          have hb' := (f i hi1 wi hS.out.inv.fz).1
          clear f
          have HA : ∀ q, (Instr.lookup 64 (.map (some m1)) (.int .i64 cur) false).run Try.prog (wi.drewN q) = .ok (.int .i64 (i : Int)) (wi.drewN q) := fun q => by
            have := (HT2.out.at_.drewN q).look_no cur
            rw [hix2.out] at this
            exact this
          have hm1 : Hid (lvl l (intOf ((wi.cell? ⟨bx, 2, none⟩).getD undef)) = lvl l cur) := Lib.hid (by rw [b0]; rfl)
          generalize lvl l cur = lc at *
          generalize hpc : parC l cur = pc at *
          go_wp2
          go_quiet (fail)
          go_wp2
          have HA1 : (Instr.lookup 64 (.map (some m1)) (.int .i64 cur) false).run Try.prog (wi.drewN nq).drew = .ok (.int .i64 (i : Int)) (wi.drewN nq).drew := HA (nq + 1)
          have hS2 := Lib.hid (hS.out.drewN nq)
          have hB2 : Hid (Blk (wi.drewN nq) bx #[.int .i64 x1, .int .i64 x2, .int .i64 cur] 32) := Lib.hid hB.out
          have hm2 : Hid (lvl l (intOf ((wi.cell? ⟨bx, 2, none⟩).getD undef)) = lc) := hm1
          have e0' : (wi.drewN nq).cell? ⟨bt, 0, none⟩ = _ := e0
          have e1' : (wi.drewN nq).cell? ⟨bt, 1, none⟩ = _ := e1
          have c2' : (wi.drewN nq).cell? ⟨b', off' + i * 3 + 1, none⟩ = _ := c2
          have b0' : (wi.drewN nq).cell? ⟨bx, 2, none⟩ = _ := b0
          have f0' : (wi.drewN nq).frozen? ⟨bx, 2, none⟩ = false := hB.out.frz 2
          clear HA HL e0 e1 c2 b0 e2
          go_wp2
          generalize wi.drewN nq = wj at *
          go_still_tail 15, (by kernel_rfl)
          change wpList _ _ _ _ _ wj.drew
          go_wp2
          have hSd := Lib.hid ((hS2.out.drewN 1).set (off := 2) hbB hφn.out (fun x hx => by have := (hao.out x hx).2; omega) (.int .i64 pc))
          have hBd : Hid (Blk ((wj.drewN 1).setCell ⟨bx, 2, none⟩ (.int .i64 pc)) bx #[.int .i64 x1, .int .i64 x2, .int .i64 pc] 32) := Lib.hid (by
            have := (hB2.out.drewN 1).set 2 (.int .i64 pc)
            simpa using this)
          go_roundw
          case rel => exact ⟨pc, hpv, Lib.hid (hst.out.symm.trans hlc.out), hSd, hBd⟩
          case measure =>
            rw [hm2.out]
            have : ((wj.drew.setCell ⟨bx, 2, none⟩ (.int .i64 pc)).cell? ⟨bx, 2, none⟩) = some (.int .i64 pc) := hBd.out.cell 2
            change lvl l (intOf ((((wj.drew).setCell ⟨bx, 2, none⟩ (.int .i64 pc)).cell? ⟨bx, 2, none⟩).getD undef)) < lc
            rw [this]
            show lvl l pc < lc
            rw [hnz.out]; omega
        · have hg : decide ((lvl l cur : Int) > lev) = false := decide_eq_false (by omega)
          have hst := Lib.hid (liftC_stop HO.out hcx.out (Nat.not_lt.1 hgt))
          have b1 : wi.cell? ⟨bx, 0, none⟩ = some (.int .i64 x1) := hB.out.cell 0
          have b2 : wi.cell? ⟨bx, 1, none⟩ = some (.int .i64 x2) := hB.out.cell 1
          generalize lvl l cur = lc at *
          go_wp2
          go_quiet (fail)
          have hS2 := hS.out.drewN nq
          have hlen : Hid ((((cs.take k).map (liftX l lev.toNat)).length : Nat) = k) := Lib.hid (by simp [hnc.out]; omega)
          have hin := hS2.inv
          have hon := hS2.own
          clear hS2
          generalize hout : (cs.take k).map (liftX l lev.toNat) = out at *
          have HO2 := Lib.hid hout
          clear hout
          have hol : out.length ≤ 20000 := by rw [hlen.out]; omega
          rw [← hlen.out]
          go_wp2_with (at_builtin; refine wpList_app1 (α := Cdg) rfl _ _ 27 rfl slC hin ao co _ hon _ _ (x1, x2, cur) ⟨[.int .i64 x1], [.int .i64 x2, .int .i64 cur], rfl, rfl, [.int .i64 x2], [.int .i64 cur], rfl, rfl, rfl⟩ rfl 1 rfl (by omega) ?_; intro a2 cap2 w5 hi5 hown5 hgr)
          have hk2 := hlen.out
          subst hk2
          go_roundw
          case rel =>
            refine ⟨out.length + 1, a2, cap2, by omega, by go_num, by simp, Lib.hid ⟨hi5, ?_⟩⟩
            rw [htk.out, ← hlc.out, hst.out]
            exact hown5
          case measure => simp [intOf]; omega
    · obtain rfl : k = nc := by omega
      go_wp2
      go_ret2
      obtain ⟨φ', hle, hi, hs, _⟩ := hSt.out.own.release hSt.out.inv
      rw [← hnc.out, List.take_length] at hs
      exact ⟨ao, co, φ', by rw [e.out]; simp [hnc.out], ((Inv.start hφ).callB HB.out).call hi, by rw [e.out]; exact hs⟩
end Go.Proofs.Ythnmglckhfajeaa
