/- The walk of the reference's Rates. Conditions: the library's table of powers of ten reads as it was laid. -/
import Derived.Test.YtafcecgcmaoakaaDoorX2
import Derived.Test.YtafcecgcmaoakaaDoorX3
namespace Go.Proofs.YtafcecgcmaoakaaDoor
open Go.RowKit
set_option linter.unusedVariables false
theorem Fr2.call {w0 W w' : World} {φ0 φ φ' : Phi} {b g : Nat} {cs ds : Array Value} {T E : TypeId} (h : Fr2 w0 φ0 φ b cs T g ds E W) (hi : Inv W.heap.size W φ φ' w') : Fr2 w0 φ0 φ' b cs T g ds E w' := ⟨h.x.call hi, h.r.call hi⟩
/-- The counts, the result's cells, and a fraction's cells. -/
structure RxS (w0 : World) (φ0 φ1 φ : Phi) (g : Nat) (A : Array Value) (b be : Nat) (ce : Array Value) (W : World) : Prop where
  f : Fr2 w0 φ0 φ g A 63 b zer14 36 W
  e : RsSt w0 φ0 φ be ce 68 W
  le : φ1.le φ
  n1 : g ≠ be
  n2 : b ≠ be
section
variable {w0 W w' : World} {φ0 φ1 φ φ' : Phi} {g b be : Nat} {A ce : Array Value}
theorem RxS.call (h : RxS w0 φ0 φ1 φ g A b be ce W) (hi : Inv W.heap.size W φ φ' w') : RxS w0 φ0 φ1 φ' g A b be ce w' := ⟨h.f.call hi, h.e.call hi, h.le.trans hi.le, h.n1, h.n2⟩
theorem RxS.callB (h : RxS w0 φ0 φ1 φ g A b be ce W) (hb : Below W.heap.size W w') : RxS w0 φ0 φ1 φ g A b be ce w' := ⟨h.f.callB hb, h.e.callB hb, h.le, h.n1, h.n2⟩
theorem RxS.put (h : RxS w0 φ0 φ1 φ g A b be ce W) (u0 u1 u2 : Value) : RxS w0 φ0 φ1 φ g A b be (((ce.setIfInBounds 0 u0).setIfInBounds 1 u1).setIfInBounds 2 u2) (((W.setCell ⟨be, 0, none⟩ u0).setCell ⟨be, 1, none⟩ u1).setCell ⟨be, 2, none⟩ u2) :=
  ⟨⟨((h.f.x.oth h.e h.n1.symm 0 u0).oth (h.e.set 0 u0) h.n1.symm 1 u1).oth ((h.e.set 0 u0).set 1 u1) h.n1.symm 2 u2, ((h.f.r.oth h.e h.n2.symm 0 u0).oth (h.e.set 0 u0) h.n2.symm 1 u1).oth ((h.e.set 0 u0).set 1 u1) h.n2.symm 2 u2⟩, ((h.e.set 0 u0).set 1 u1).set 2 u2, h.le, h.n1, h.n2⟩
theorem Part_X {a c : Int} (a0 : 0 ≤ a) (a1 : a ≤ 999999999) (c0 : 0 < c) (c1 : c ≤ 999999999) (h : Hid (RxS w0 φ0 φ1 φ g A b be ce W)) :
    Calls Tryd.prog 32 #[.int .i64 a, .int .i64 c] W (fun e w' => ∃ v φ', e = .returned v ∧ Hid (RxS w0 φ0 φ1 φ' g A b be ce w') ∧ Hid (FrX φ' v (prt a c) a.natAbs c.natAbs) ∧ Hid (φ.le φ')) := by
  obtain ⟨n, rfl⟩ : ∃ n : Nat, a = (n : Int) := ⟨a.toNat, by omega⟩
  obtain ⟨m, rfl⟩ : ∃ n : Nat, c = (n : Int) := ⟨c.toNat, by omega⟩
  refine (RPart_any (a := n) (b := m) (by omega) (by omega) (by omega) h.out.f.x.inv.fz).mono ?_
  rintro e w' ⟨v, φ', rfl, hi, hv⟩
  refine ⟨v, φ', rfl, Lib.hid (h.out.call hi), Lib.hid ?_, Lib.hid hi.le⟩
  rw [Rat.mkRat_eq_div] at hv
  exact hv
theorem Plus_X {v1 v2 : Value} {x y : Rat} {N1 D1 N2 D2 : Nat} (hv1 : Hid (FrX φ v1 x N1 D1)) (hv2 : Hid (FrX φ v2 y N2 D2)) (hM1 : N1 * D2 + N2 * D1 ≤ 999999999) (hM2 : D1 * D2 ≤ 999999999) (h : Hid (RxS w0 φ0 φ1 φ g A b be ce W)) :
    Calls Tryd.prog 31 #[v1, v2] W (fun e w' => ∃ v φ', e = .returned v ∧ Hid (RxS w0 φ0 φ1 φ' g A b be ce w') ∧ Hid (FrX φ' v (x + y) (N1 * D2 + N2 * D1) (D1 * D2)) ∧ Hid (φ.le φ')) := by
  refine (RPlus_any Rdiv_one_hh lenB_oneR h.out.f.x.inv.fz hv1.out hv2.out hM1 hM2).mono ?_
  rintro e w' ⟨v, φ', rfl, hi, hv⟩
  exact ⟨v, φ', rfl, Lib.hid (h.out.call hi), Lib.hid hv, Lib.hid hi.le⟩
theorem Whole_X {a : Int} (h0 : 0 ≤ a) (h1 : a ≤ 999999999) (h : Hid (RxS w0 φ0 φ1 φ g A b be ce W)) :
    Calls Tryd.prog 30 #[.int .i64 a] W (fun e w' => ∃ v φ', e = .returned v ∧ Hid (RxS w0 φ0 φ1 φ' g A b be ce w') ∧ Hid (FrX φ' v (a : Rat) a.natAbs 1) ∧ Hid (φ.le φ')) := by
  refine (RWhole_any (by omega) (by omega) h.out.f.x.inv.fz).mono ?_
  rintro e w' ⟨v, φ', rfl, hi, hv⟩
  exact ⟨v, φ', rfl, Lib.hid (h.out.call hi), Lib.hid hv, Lib.hid hi.le⟩
theorem rate_X {a : Int} {v : Value} {y : Rat} {N D : Nat} (hp : Hid (PowP φ1)) (h0 : 0 ≤ a) (h1 : a ≤ 999999999) (hv : Hid (FrX φ v y N D)) (hN : N ≤ 999999999) (hD : D ≤ 999999999) (hM : a.natAbs * D ≤ 999999999) {x : Rat} (hx : Hid ((a : Rat) / y = x)) {S : ByteArray × ByteArray × Int} (hS : Hid (ratR x = S)) (h : Hid (RxS w0 φ0 φ1 φ g A b be ce W)) :
    Calls Tryd.prog 33 #[.int .i64 a, v] W (fun e w' => e = .returned (.agg #[.string S.1, .string S.2.1]) ∧ Hid (RxS w0 φ0 φ1 φ g A b be ce w')) := by
  obtain ⟨s, t, f⟩ := S
  refine (Rrate_any h0 h1 h.out.f.x.inv.fz (hp.out.mono h.out.le) hv.out hN hD hM (S := s) (T := t) (F := f) (Lib.hid (by rw [hx.out, hS.out]))).mono ?_
  rintro e w' ⟨rfl, hb⟩
  exact ⟨rfl, Lib.hid (h.out.callB hb)⟩
theorem rate_E {a : Int} {v : Value} {y : Rat} {N D : Nat} (hp : Hid (PowP φ1)) (h0 : 0 ≤ a) (h1 : a ≤ 999999999) (hv : Hid (FrX φ1 v y N D)) (hN : N ≤ 999999999) (hD : D ≤ 999999999) (hM : a.natAbs * D ≤ 999999999) {x : Rat} (hx : Hid ((a : Rat) / y = x)) {S : ByteArray × ByteArray × Int} (hS : Hid (ratR x = S)) (h : Hid (RxS w0 φ0 φ1 φ g A b be ce W)) :
    Calls Tryd.prog 33 #[.int .i64 a, v] W (fun e w' => e = .returned (.agg #[.string S.1, .string S.2.1]) ∧ Hid (RxS w0 φ0 φ1 φ g A b be ce w')) := rate_X hp h0 h1 (Lib.hid (hv.out.mono h.out.le)) hN hD hM hx hS h
/-- A region whose ways end in one state, but for a value and a fraction's parts. -/
theorem wp_region_cut8 {P : Program} {id : Nat} {ops : Array Oper} {b : Bool} {Q : Exit → Act → World → Prop} {a : Act} {w : World} {fr : Value → Bool → Option Addr → Nat → Nat → Option Addr → Nat → Nat → Act} (S : Bool → Option Addr → Nat → Nat → Option Addr → Nat → Nat → World → Prop)
    (h1 : (Code.region id ops b).wp P (OnlyN fun a' w' => ∃ v g a1 k1 c1 a2 k2 c2, a' = fr v g a1 k1 c1 a2 k2 c2 ∧ S g a1 k1 c1 a2 k2 c2 w') a w)
    (h2 : ∀ v g a1 k1 c1 a2 k2 c2 w, S g a1 k1 c1 a2 k2 c2 w → Q .normal (fr v g a1 k1 c1 a2 k2 c2) w) : (Code.region id ops b).wp P Q a w :=
  Code.wp_mono (fun e a w h => by
    cases e <;> first | exact h.elim | (obtain ⟨v, g, a1, k1, c1, a2, k2, c2, rfl, hs⟩ := (h : ∃ v g a1 k1 c1 a2 k2 c2, a = fr v g a1 k1 c1 a2 k2 c2 ∧ S g a1 k1 c1 a2 k2 c2 w); exact h2 v g a1 k1 c1 a2 k2 c2 w hs)) h1
end
set_option maxRecDepth 100000 in
set_option maxHeartbeats 4000000 in
theorem RRates_any {n : Nat} {a : Option Addr} {cap : Nat} {xs : List Int} {w : World} {φ : Phi} (hφ : Fz φ w) (hp : PowP φ) (s : SlV φ a cap xs) (hn : Hid (xs.length = n)) (hm : n ≤ 9223372036854775807) {S : List ByteArray} {F : Int} (hR : Hid (ratesR xs = (S, F))) :
    Calls Tryd.prog 12 #[.slice a n cap] w (fun e w' => e = .returned (.tuple #[.agg (strsA S), .int .i64 F]) ∧ Below w.heap.size w w') := by
  have hRS := Lib.hid (RsSt.start (Inv.start hφ) zer14 36)
  have HP := Lib.hid hp
  clear hφ hp
  obtain ⟨bx, hbx⟩ : ∃ b, w.heap.size = b := ⟨_, rfl⟩
  rw [hbx] at hRS
  go_enter Tryd.func12, Tryd.ntmps12
  by_cases h5 : 5000 < n
  · have h5i : (5000 : Int) < (n : Int) := by omega
    have hq : Hid (S = List.replicate 14 ⟨#[]⟩ ∧ F = 2) := Lib.hid (by
      have e := hR.out
      have e2 : ratesF xs = 2 := by rw [ratesF, if_pos (by rw [hn.out]; exact h5)]
      rw [ratesR, e2, if_pos (by decide)] at e
      exact ⟨(Prod.mk.inj e).1.symm, (Prod.mk.inj e).2.symm⟩)
    go_wp2
    have hZ0 := hRS.out
    unfold zer14 at hZ0
    have hZ := Lib.hid hZ0
    clear hZ0
    have e0 : _ = some (Value.string ⟨#[]⟩) := hZ.out.k.cell 0
    have e1 : _ = some (Value.string ⟨#[]⟩) := hZ.out.k.cell 1
    have e2 : _ = some (Value.string ⟨#[]⟩) := hZ.out.k.cell 2
    have e3 : _ = some (Value.string ⟨#[]⟩) := hZ.out.k.cell 3
    have e4 : _ = some (Value.string ⟨#[]⟩) := hZ.out.k.cell 4
    have e5 : _ = some (Value.string ⟨#[]⟩) := hZ.out.k.cell 5
    have e6 : _ = some (Value.string ⟨#[]⟩) := hZ.out.k.cell 6
    have e7 : _ = some (Value.string ⟨#[]⟩) := hZ.out.k.cell 7
    have e8 : _ = some (Value.string ⟨#[]⟩) := hZ.out.k.cell 8
    have e9 : _ = some (Value.string ⟨#[]⟩) := hZ.out.k.cell 9
    have e10 : _ = some (Value.string ⟨#[]⟩) := hZ.out.k.cell 10
    have e11 : _ = some (Value.string ⟨#[]⟩) := hZ.out.k.cell 11
    have e12 : _ = some (Value.string ⟨#[]⟩) := hZ.out.k.cell 12
    have e13 : _ = some (Value.string ⟨#[]⟩) := hZ.out.k.cell 13
    (try simp only [Exit.inBlock, Exit.then])
    refine bodyPost_ret (v := .tuple #[.agg #[.string ⟨#[]⟩, .string ⟨#[]⟩, .string ⟨#[]⟩, .string ⟨#[]⟩, .string ⟨#[]⟩, .string ⟨#[]⟩, .string ⟨#[]⟩, .string ⟨#[]⟩, .string ⟨#[]⟩, .string ⟨#[]⟩, .string ⟨#[]⟩, .string ⟨#[]⟩, .string ⟨#[]⟩, .string ⟨#[]⟩], .int .i64 2]) (by simp [results, Tryd.results12, go_sem, e0, e1, e2, e3, e4, e5, e6, e7, e8, e9, e10, e11, e12, e13]) rfl ?_
    exact ⟨by rw [hq.out.1, hq.out.2]; rfl, hRS.out.inv.bel⟩
  · have h5i : ¬ (5000 : Int) < (n : Int) := by omega
    have hF0 : Hid (Fr2 w φ φ (bx + 1) (arrO (List.replicate 8 0)) 63 bx zer14 36 ((w.alloc (.cells zer14 36)).alloc (.cells (arrO (List.replicate 8 0)) 63))) := Lib.hid (by
      have h1 := RsSt.start hRS.out.inv (arrO (List.replicate 8 0)) 63
      rw [alloc_sz, hbx] at h1
      exact ⟨h1, hRS.out.callB ((Below.refl _ _).alloc (Nat.le_refl _) _)⟩)
    have hm5 : n ≤ 5000 := by omega
    clear h5
    go_wp2
    go_loopw [6, 21] (fun ov iv wr => ∃ (k : Nat) (ns : List Int), k ≤ n ∧ iv = .int .i64 (k : Int) ∧ Hid (∀ i, i < k → oBad xs i = 0) ∧ Hid (cntO xs k = ns) ∧ Hid (Fr2 w φ φ (bx + 1) (arrO ns) 63 bx zer14 36 wr)) (fun _ iv _ => n - (intOf iv).toNat)
    case atStart => exact ⟨0, List.replicate 8 0, Nat.zero_le _, rfl, Lib.hid (fun i hi => by omega), Lib.hid rfl, hF0⟩
    case round =>
      clear hF0
      obtain ⟨k, ns, hk, rfl, hz, hc, hS⟩ := hrel
      have hlen : Hid (ns.length = 8) := Lib.hid (by rw [← hc.out]; exact cntO_len xs k)
      by_cases hlt : k < n
      · obtain ⟨b, off, rfl, f⟩ := s.intsD hn hlt
        obtain ⟨_, d1⟩ := f k hlt wr hS.out.x.inv.fz
        have hil : (k : Int) < (n : Int) := by omega
        clear f
        obtain ⟨q, hq⟩ : ∃ q, Hid (outB (xs.getD k 0) 1 7 = q) := ⟨_, Lib.hid rfl⟩
        have hnx : Hid (cntO xs (k + 1) = (cntO xs k).set (xs.getD k 0).toNat ((cntO xs k).getD (xs.getD k 0).toNat 0 + 1)) := Lib.hid rfl
        have hbk : Hid (oBad xs k = if outB (xs.getD k 0) 1 7 = true then 4 else 0) := Lib.hid rfl
        generalize xs.getD k 0 = o at *
        cases q
        · obtain ⟨o1, o7⟩ := outB_false.1 hq.out
          obtain ⟨j, rfl⟩ : ∃ j : Nat, o = (j : Int) := ⟨o.toNat, by omega⟩
          obtain ⟨v, hv⟩ : ∃ v, Hid (ns.getD j 0 = v) := ⟨_, Lib.hid rfl⟩
          have hvb : 0 ≤ v ∧ v ≤ (k : Int) := by have := cntO_bd xs k j; rw [hc.out, hv.out] at this; exact this
          obtain ⟨hv0, hv1⟩ := hvb
          have c1 : wr.cell? ⟨bx + 1, j, none⟩ = some (.int .i64 v) := by rw [hS.out.x.k.cell j, arrO_at (by rw [hlen.out]; omega), hv.out]
          have c2 := hS.out.x.k.frz j
          have hz2 : Hid (∀ i, i < k + 1 → oBad xs i = 0) := Lib.hid (fun i hi => by
            by_cases e : i = k
            · subst e; rw [hbk.out, hq.out]; rfl
            · exact hz.out i (by omega))
          have hnx2 : Hid (cntO xs (k + 1) = ns.set j (v + 1)) := Lib.hid (by rw [hnx.out, Int.toNat_natCast, hc.out, hv.out])
          have hS2 : Hid (Fr2 w φ φ (bx + 1) (arrO (ns.set j (v + 1))) 63 bx zer14 36 (wr.setCell ⟨bx + 1, j, none⟩ (.int .i64 (v + 1)))) := Lib.hid (by
            rw [← arrO_set]; exact hS.out.setx (by omega) j _)
          have hj8 : (j : Int) < 8 := by omega
          have hj0 : (0 : Int) ≤ (j : Int) := by omega
          clear hnx hbk
          go_wp2_with (go_at_call 29; refine (sin_b (b := true) (by rw [hq.out]; rfl) _).mono ?_; rintro e w' ⟨rfl, rfl⟩)
          go_roundw
          case rel => exact ⟨k + 1, ns.set j (v + 1), by omega, by go_num, hz2, hnx2, hS2⟩
          case measure => simp [intOf]; omega
        · have hFF : Hid (ratesF xs = 4) := Lib.hid (by
            rw [ratesF, if_neg (by rw [hn.out]; omega), hn.out, scan_stop hz.out hlt (by rw [hbk.out, hq.out]; decide), hbk.out, hq.out]; rfl)
          have r0 : wr.cell? ⟨bx, 0, none⟩ = some (.string ⟨#[]⟩) := hS.out.r.k.cell 0
          have s0 := hS.out.r.k.frz 0
          have r1 : wr.cell? ⟨bx, 1, none⟩ = some (.string ⟨#[]⟩) := hS.out.r.k.cell 1
          have s1 := hS.out.r.k.frz 1
          have r2 : wr.cell? ⟨bx, 2, none⟩ = some (.string ⟨#[]⟩) := hS.out.r.k.cell 2
          have s2 := hS.out.r.k.frz 2
          have r3 : wr.cell? ⟨bx, 3, none⟩ = some (.string ⟨#[]⟩) := hS.out.r.k.cell 3
          have s3 := hS.out.r.k.frz 3
          have r4 : wr.cell? ⟨bx, 4, none⟩ = some (.string ⟨#[]⟩) := hS.out.r.k.cell 4
          have s4 := hS.out.r.k.frz 4
          have r5 : wr.cell? ⟨bx, 5, none⟩ = some (.string ⟨#[]⟩) := hS.out.r.k.cell 5
          have s5 := hS.out.r.k.frz 5
          have r6 : wr.cell? ⟨bx, 6, none⟩ = some (.string ⟨#[]⟩) := hS.out.r.k.cell 6
          have s6 := hS.out.r.k.frz 6
          have r7 : wr.cell? ⟨bx, 7, none⟩ = some (.string ⟨#[]⟩) := hS.out.r.k.cell 7
          have s7 := hS.out.r.k.frz 7
          have r8 : wr.cell? ⟨bx, 8, none⟩ = some (.string ⟨#[]⟩) := hS.out.r.k.cell 8
          have s8 := hS.out.r.k.frz 8
          have r9 : wr.cell? ⟨bx, 9, none⟩ = some (.string ⟨#[]⟩) := hS.out.r.k.cell 9
          have s9 := hS.out.r.k.frz 9
          have r10 : wr.cell? ⟨bx, 10, none⟩ = some (.string ⟨#[]⟩) := hS.out.r.k.cell 10
          have s10 := hS.out.r.k.frz 10
          have r11 : wr.cell? ⟨bx, 11, none⟩ = some (.string ⟨#[]⟩) := hS.out.r.k.cell 11
          have s11 := hS.out.r.k.frz 11
          have r12 : wr.cell? ⟨bx, 12, none⟩ = some (.string ⟨#[]⟩) := hS.out.r.k.cell 12
          have s12 := hS.out.r.k.frz 12
          have r13 : wr.cell? ⟨bx, 13, none⟩ = some (.string ⟨#[]⟩) := hS.out.r.k.cell 13
          have s13 := hS.out.r.k.frz 13
          have hqq : Hid (S = List.replicate 14 ⟨#[]⟩ ∧ F = 4) := Lib.hid (by
            have e := hR.out
            rw [ratesR, hFF.out, if_pos (by decide)] at e
            exact ⟨(Prod.mk.inj e).1.symm, (Prod.mk.inj e).2.symm⟩)
          go_wp2_with (go_at_call 29; refine (sin_b (b := false) (by rw [hq.out]; rfl) _).mono ?_; rintro e w' ⟨rfl, rfl⟩)
          have hZ := Lib.hid ((((((((((((((hS.out.r.set 0 (.string ⟨#[]⟩)).set 1 (.string ⟨#[]⟩)).set 2 (.string ⟨#[]⟩)).set 3 (.string ⟨#[]⟩)).set 4 (.string ⟨#[]⟩)).set 5 (.string ⟨#[]⟩)).set 6 (.string ⟨#[]⟩)).set 7 (.string ⟨#[]⟩)).set 8 (.string ⟨#[]⟩)).set 9 (.string ⟨#[]⟩)).set 10 (.string ⟨#[]⟩)).set 11 (.string ⟨#[]⟩)).set 12 (.string ⟨#[]⟩)).set 13 (.string ⟨#[]⟩))
          have e0 : _ = some (Value.string ⟨#[]⟩) := hZ.out.k.cell 0
          have e1 : _ = some (Value.string ⟨#[]⟩) := hZ.out.k.cell 1
          have e2 : _ = some (Value.string ⟨#[]⟩) := hZ.out.k.cell 2
          have e3 : _ = some (Value.string ⟨#[]⟩) := hZ.out.k.cell 3
          have e4 : _ = some (Value.string ⟨#[]⟩) := hZ.out.k.cell 4
          have e5 : _ = some (Value.string ⟨#[]⟩) := hZ.out.k.cell 5
          have e6 : _ = some (Value.string ⟨#[]⟩) := hZ.out.k.cell 6
          have e7 : _ = some (Value.string ⟨#[]⟩) := hZ.out.k.cell 7
          have e8 : _ = some (Value.string ⟨#[]⟩) := hZ.out.k.cell 8
          have e9 : _ = some (Value.string ⟨#[]⟩) := hZ.out.k.cell 9
          have e10 : _ = some (Value.string ⟨#[]⟩) := hZ.out.k.cell 10
          have e11 : _ = some (Value.string ⟨#[]⟩) := hZ.out.k.cell 11
          have e12 : _ = some (Value.string ⟨#[]⟩) := hZ.out.k.cell 12
          have e13 : _ = some (Value.string ⟨#[]⟩) := hZ.out.k.cell 13
          (try simp only [Exit.inBlock, Exit.then])
          refine bodyPost_ret (v := .tuple #[.agg #[.string ⟨#[]⟩, .string ⟨#[]⟩, .string ⟨#[]⟩, .string ⟨#[]⟩, .string ⟨#[]⟩, .string ⟨#[]⟩, .string ⟨#[]⟩, .string ⟨#[]⟩, .string ⟨#[]⟩, .string ⟨#[]⟩, .string ⟨#[]⟩, .string ⟨#[]⟩, .string ⟨#[]⟩, .string ⟨#[]⟩], .int .i64 4]) (by simp [results, Tryd.results12, go_sem, e0, e1, e2, e3, e4, e5, e6, e7, e8, e9, e10, e11, e12, e13]) rfl ?_
          exact ⟨by rw [hqq.out.1, hqq.out.2]; rfl, hZ.out.inv.bel⟩
      · obtain rfl : k = n := by omega
        have hFF : Hid (ratesF xs = 0) := Lib.hid (by rw [ratesF, if_neg (by rw [hn.out]; omega), hn.out, scan_zero _ _ hz.out])
        have hL : Hid (ratL ns = S ∧ F = 0) := Lib.hid (by
          have e := hR.out
          rw [ratesR, hFF.out, if_neg (by simp), hn.out, hc.out] at e
          exact ⟨(Prod.mk.inj e).1, (Prod.mk.inj e).2.symm⟩)
        have hcj := Lib.hid (fun (j : Nat) (hj : j < 8) (W : World) (h : Fr2 w φ φ (bx + 1) (arrO ns) 63 bx zer14 36 W) => (show W.cell? ⟨bx + 1, j, none⟩ = some (.int .i64 (ns.getD j 0)) by rw [h.x.k.cell j, arrO_at (by rw [hlen.out]; exact hj)]))
        have hbd := Lib.hid (fun j => (by have := cntO_bd xs k j; rw [hc.out] at this; exact this : 0 ≤ ns.getD j 0 ∧ ns.getD j 0 ≤ (k : Int)))
        obtain ⟨hL1, rfl⟩ := hL.out
        unfold ratL at hL1
        simp only at hL1
        have c1 := hcj.out 1 (by omega) wr hS.out
        have c2 := hcj.out 2 (by omega) wr hS.out
        have c3 := hcj.out 3 (by omega) wr hS.out
        have c4 := hcj.out 4 (by omega) wr hS.out
        have c5 := hcj.out 5 (by omega) wr hS.out
        have c6 := hcj.out 6 (by omega) wr hS.out
        have c7 := hcj.out 7 (by omega) wr hS.out
        obtain ⟨a1, b1⟩ := hbd.out 1
        obtain ⟨a2, b2⟩ := hbd.out 2
        obtain ⟨a3, b3⟩ := hbd.out 3
        obtain ⟨a4, b4⟩ := hbd.out 4
        obtain ⟨a5, b5⟩ := hbd.out 5
        obtain ⟨a6, b6⟩ := hbd.out 6
        obtain ⟨a7, b7⟩ := hbd.out 7
        have h2 := Lib.hid (fun (φ' : Phi) (W : World) (h : Fr2 w φ φ' (bx + 1) (arrO ns) 63 bx zer14 36 W) => (show W.cell? ⟨bx + 1, 2, none⟩ = some (.int .i64 (ns.getD 2 0)) by rw [h.x.k.cell 2, arrO_at (by rw [hlen.out]; omega)]))
        have h7 := Lib.hid (fun (φ' : Phi) (W : World) (h : Fr2 w φ φ' (bx + 1) (arrO ns) 63 bx zer14 36 W) => (show W.cell? ⟨bx + 1, 7, none⟩ = some (.int .i64 (ns.getD 7 0)) by rw [h.x.k.cell 7, arrO_at (by rw [hlen.out]; omega)]))
        generalize ns.getD 1 0 = d at *
        generalize ns.getD 2 0 = fq at *
        generalize ns.getD 3 0 = p at *
        generalize ns.getD 4 0 = r at *
        generalize ns.getD 5 0 = o at *
        generalize ns.getD 6 0 = nc at *
        generalize ns.getD 7 0 = u at *
        clear hcj hbd hL
        have HL := Lib.hid hL1
        clear hL1
        go_wp2
        go_quiet (fail)
        go_wp2_with fail
        rename Nat => nq
        obtain ⟨met, hmet⟩ : ∃ m, d + p + r + o = m := ⟨_, rfl⟩
        obtain ⟨kn, hkn⟩ : ∃ m, met + nc = m := ⟨_, rfl⟩
        have hL1 := HL.out
        rw [hmet, hkn] at hL1
        rw [hmet, hkn]
        have q1 : 0 ≤ met ∧ met ≤ 20000 ∧ 0 ≤ kn ∧ kn ≤ 25000 := by omega
        obtain ⟨q1, q2, q3, q4⟩ := q1
        obtain ⟨x1, hx1⟩ : ∃ x, Hid (prt d (kn + u) = x) := ⟨_, Lib.hid rfl⟩
        obtain ⟨S1, hS1⟩ : ∃ x, Hid (ratR x1 = x) := ⟨_, Lib.hid rfl⟩
        obtain ⟨x2, hx2⟩ : ∃ x, Hid (prt (d + p) (kn + u) = x) := ⟨_, Lib.hid rfl⟩
        obtain ⟨S2, hS2⟩ : ∃ x, Hid (ratR x2 = x) := ⟨_, Lib.hid rfl⟩
        obtain ⟨x3, hx3⟩ : ∃ x, Hid (prt (d * (kn + fq)) (kn * (kn + fq + u)) = x) := ⟨_, Lib.hid rfl⟩
        obtain ⟨S3, hS3⟩ : ∃ x, Hid (ratR x3 = x) := ⟨_, Lib.hid rfl⟩
        obtain ⟨x4, hx4⟩ : ∃ x, Hid (prt d kn = x) := ⟨_, Lib.hid rfl⟩
        obtain ⟨S4, hS4⟩ : ∃ x, Hid (ratR x4 = x) := ⟨_, Lib.hid rfl⟩
        obtain ⟨x5, hx5⟩ : ∃ x, Hid (prt d met = x) := ⟨_, Lib.hid rfl⟩
        obtain ⟨S5, hS5⟩ : ∃ x, Hid (ratR x5 = x) := ⟨_, Lib.hid rfl⟩
        obtain ⟨x6, hx6⟩ : ∃ x, Hid (prt r (kn + u) = x) := ⟨_, Lib.hid rfl⟩
        obtain ⟨S6, hS6⟩ : ∃ x, Hid (ratR x6 = x) := ⟨_, Lib.hid rfl⟩
        obtain ⟨x7, hx7⟩ : ∃ x, Hid (prt met (kn + u) = x) := ⟨_, Lib.hid rfl⟩
        obtain ⟨S7, hS7⟩ : ∃ x, Hid (ratR x7 = x) := ⟨_, Lib.hid rfl⟩
        have HS : Hid (S = [S1.1, S1.2.1, S2.1, S2.2.1, S3.1, S3.2.1, S4.1, S4.2.1, S5.1, S5.2.1, S6.1, S6.2.1, S7.1, S7.2.1]) := Lib.hid (by
          rw [← hL1, hx1.out, hx2.out, hx3.out, hx4.out, hx5.out, hx6.out, hx7.out]
          unfold two
          rw [hS1.out, hS2.out, hS3.out, hS4.out, hS5.out, hS6.out, hS7.out]; rfl)
        have HE : Hid ((d : Rat) / ((kn : Rat) + prt (kn * u) (kn + fq)) = x3) := Lib.hid (by rw [← hx3.out]; exact estimated q3 a2 a7)
        have m1 : 0 ≤ kn * u := Int.mul_nonneg (by omega) (by omega)
        have m2 : kn * u ≤ 25000 * 5000 := Int.mul_le_mul (by omega) (by omega) (by omega) (by omega)
        clear hL1 HL c1 c2 c3 c4 c5 c6 c7
        have HMK := Lib.hid (And.intro hmet hkn)
        have hSd : Hid (Fr2 w φ φ (bx + 1) (arrO ns) 63 bx zer14 36 (wr.drewN nq)) := Lib.hid (hS.out.callB (bdrewN (Below.refl _ wr) nq))
        refine (RWhole_any (n := kn) (by omega) (by omega) hSd.out.x.inv.fz).mono ?_
        rintro e w5 ⟨v5, φ5, rfl, hi5, hv5⟩
        have HV5 := Lib.hid hv5
        obtain ⟨g5, n5, d5, k5, k6, a8, c8, a9, c9, rfl, t1, t2, m5, m6, hd5, hn5, hdd5, hr5⟩ := hv5.open
        have H5 := Lib.hid (hSd.out.call hi5)
        have HP5 := Lib.hid (HP.out.mono hi5.le)
        have hlt5 : bx + 1 < w5.heap.size := H5.out.x.k.lt
        have c2 := h2.out _ _ H5.out
        obtain ⟨be, hbe⟩ : ∃ b, w5.heap.size = b := ⟨_, rfl⟩
        have hRX : Hid (RxS w φ φ5 φ5 (bx + 1) (arrO ns) bx be #[.bool g5, .slice a8 k5 c8, .slice a9 k6 c9] (w5.alloc (.cells #[.bool g5, .slice a8 k5 c8, .slice a9 k6 c9] 68))) := Lib.hid (by
          have h1 := RsSt.start H5.out.x.inv #[.bool g5, .slice a8 k5 c8, .slice a9 k6 c9] 68
          rw [hbe] at h1
          exact ⟨H5.out.callB ((Below.refl _ _).alloc (Nat.le_refl _) _), h1, φ5.le_refl, by omega, by omega⟩)
        clear hv5 t1 t2 m5 m6 hd5 hn5 hdd5 hr5 hi5 hSd hmet hkn
        have hlt6 : bx + 1 < be := by omega
        have c2a := h2.out _ _ hRX.out.f
        by_cases hkf : 0 < kn + fq
        · have hkg : kn + fq > 0 := hkf
          have nb1 : kn.natAbs ≤ 25000 := by omega
          have nb2 : (kn + fq).natAbs ≤ 30000 := by omega
          have nb3 : (kn * u).natAbs ≤ 125000000 := by omega
          have nb4 : kn.natAbs * (kn + fq).natAbs ≤ 25000 * 30000 := Nat.mul_le_mul nb1 nb2
          have w1 : IntKind.i64.wrap (kn * u) = kn * u := IntWalk.i64_in _ (by omega)
          have w2 : IntKind.i64.wrap (kn + fq) = kn + fq := IntWalk.i64_in _ (by omega)
          go_wp2_with fail
          have c7a := h7.out _ _ hRX.out.f
          generalize w5.alloc (.cells #[.bool g5, .slice a8 k5 c8, .slice a9 k6 c9] 68) = wx at *
          have y0 : wx.cell? ⟨be, 0, none⟩ = some (.bool g5) := hRX.out.e.k.cell 0
          have y1 : wx.cell? ⟨be, 1, none⟩ = some (.slice a8 k5 c8) := hRX.out.e.k.cell 1
          have y2 : wx.cell? ⟨be, 2, none⟩ = some (.slice a9 k6 c9) := hRX.out.e.k.cell 2
          have hRd : Hid (RxS w φ φ5 φ5 (bx + 1) (arrO ns) bx be #[.bool g5, .slice a8 k5 c8, .slice a9 k6 c9] wx.drew) := Lib.hid (hRX.out.callB (bdrewN (Below.refl _ wx) 1))
          apply wp_region_cut8 (S := fun g aa ka ca ab kb cb W => ∃ φ9 N D, N ≤ 999999999 ∧ D ≤ 30000 ∧ Hid (RxS w φ φ5 φ9 (bx + 1) (arrO ns) bx be #[.bool g, .slice aa ka ca, .slice ab kb cb] W) ∧ Hid (FrX φ9 (.agg #[.bool g, .slice aa ka ca, .slice ab kb cb]) ((kn : Rat) + prt (kn * u) (kn + fq)) N D))
          case h1 =>
            go_region_law (first
              | (go_simp; go_at_call 32; refine (Part_X (a := kn * u) (c := kn + fq) m1 (by omega) hkf (by omega) hRd).mono ?_; rintro e w7 ⟨v7, φ7, rfl, hX7, hv7, hl7⟩; have z0 : w7.cell? ⟨be, 0, none⟩ = some (.bool g5) := hX7.out.e.k.cell 0; have z1 : w7.cell? ⟨be, 1, none⟩ = some (.slice a8 k5 c8) := hX7.out.e.k.cell 1; have z2 : w7.cell? ⟨be, 2, none⟩ = some (.slice a9 k6 c9) := hX7.out.e.k.cell 2)
              | (go_simp; go_at_call 31; refine (Plus_X (Lib.hid (HV5.out.mono hX7.out.le)) hv7 (by omega) (by omega) hX7).mono ?_; rintro e w8 ⟨v8, φ8, rfl, hX8, hv8, hl8⟩; obtain ⟨g9, n9, d9, ka, kb, aa, ca, ab, cb, rfl, t1, t2, m5, m6, hd5, hn5, hdd5, hr5⟩ := hv8.out.open; clear t1 t2 m5 m6 hd5 hn5 hdd5 hr5; have z0 : w8.cell? ⟨be, 0, none⟩ = some (.bool g5) := hX8.out.e.k.cell 0; have z1 : w8.cell? ⟨be, 1, none⟩ = some (.slice a8 k5 c8) := hX8.out.e.k.cell 1; have z2 : w8.cell? ⟨be, 2, none⟩ = some (.slice a9 k6 c9) := hX8.out.e.k.cell 2; have z3 := hX8.out.e.k.frz 0; have z4 := hX8.out.e.k.frz 1; have z5 := hX8.out.e.k.frz 2))
            all_goals (refine onlyN_mk ⟨v7, g9, aa, ka, ca, ab, kb, cb, ?_, φ8, _, _, ?_, ?_, Lib.hid (hX8.out.put (.bool g9) (.slice aa ka ca) (.slice ab kb cb)), hv8⟩ <;> first | rfl | omega)
          case h2 =>
            intro v7 ge aa ka ca ab kb cb w9 hS9
            obtain ⟨φ9, N9, D9, hNE, hDE0, hRX9, HEV⟩ := hS9
            have HP9 := Lib.hid (HP5.out.mono hRX9.out.le)
            have hRB : Hid (RxS w φ φ9 φ9 (bx + 1) (arrO ns) bx be #[.bool ge, .slice aa ka ca, .slice ab kb cb] w9) := Lib.hid ⟨hRX9.out.f, hRX9.out.e, φ9.le_refl, hRX9.out.n1, hRX9.out.n2⟩
            have hDE : D9 ≤ 999999999 := by omega
            have hME : d.natAbs * D9 ≤ 999999999 := Nat.le_trans (Nat.mul_le_mul (show d.natAbs ≤ 5000 by omega) hDE0) (by decide)
            clear hRX9 hRX hRd y0 y1 y2 c2a c7a
            go_wp2_with fail
            have hmet := HMK.out.1
            have w1 : IntKind.i64.wrap (d + p) = d + p := IntWalk.i64_in _ (by omega)
            have w2 : IntKind.i64.wrap (d + p + r) = d + p + r := IntWalk.i64_in _ (by omega)
            have w3 : IntKind.i64.wrap met = met := IntWalk.i64_in _ (by omega)
            have y0 : w9.cell? ⟨be, 0, none⟩ = some (.bool ge) := hRB.out.e.k.cell 0
            have y1 : w9.cell? ⟨be, 1, none⟩ = some (.slice aa ka ca) := hRB.out.e.k.cell 1
            have y2 : w9.cell? ⟨be, 2, none⟩ = some (.slice ab kb cb) := hRB.out.e.k.cell 2
            have hRd : Hid (RxS w φ φ9 φ9 (bx + 1) (arrO ns) bx be #[.bool ge, (.slice aa ka ca), (.slice ab kb cb)] w9.drew) := Lib.hid (hRB.out.callB (bdrewN (Below.refl _ w9) 1))
            have hcE := Lib.hid (fun (φ3 : Phi) (W : World) (h : Hid (RxS w φ φ9 φ3 (bx + 1) (arrO ns) bx be #[.bool ge, (.slice aa ka ca), (.slice ab kb cb)] W)) => (⟨h.out.e.k.cell 0, h.out.e.k.cell 1, h.out.e.k.cell 2⟩ : W.cell? ⟨be, 0, none⟩ = some (.bool ge) ∧ W.cell? ⟨be, 1, none⟩ = some (.slice aa ka ca) ∧ W.cell? ⟨be, 2, none⟩ = some (.slice ab kb cb)))
            have kk1 : Hid ((d : Rat) / ((kn + u : Int) : Rat) = x1) := Lib.hid hx1.out
            have kk2 : Hid (((d + p : Int) : Rat) / ((kn + u : Int) : Rat) = x2) := Lib.hid hx2.out
            have kk4 : Hid ((d : Rat) / ((kn : Int) : Rat) = x4) := Lib.hid hx4.out
            have kk5 : Hid ((d : Rat) / ((met : Int) : Rat) = x5) := Lib.hid hx5.out
            have kk6 : Hid ((r : Rat) / ((kn + u : Int) : Rat) = x6) := Lib.hid hx6.out
            have kk7 : Hid ((met : Rat) / ((kn + u : Int) : Rat) = x7) := Lib.hid hx7.out
            go_region_held3 (fun w' => w'.cell? ⟨be, 0, none⟩ = some (.bool ge) ∧ w'.cell? ⟨be, 1, none⟩ = some (.slice aa ka ca) ∧ w'.cell? ⟨be, 2, none⟩ = some (.slice ab kb cb)) (first | with_reducible exact ⟨by assumption, by assumption, by assumption⟩ | with_reducible exact ⟨(keep1 (keep1 (keep1 (keep1 (keep1 (keep1 (keep1 (keep1 (keep1 (keep1 (keep1 (keep1 (keep1 (keep1 (by assumption) (show bx ≠ be by omega)) (show bx ≠ be by omega)) (show bx ≠ be by omega)) (show bx ≠ be by omega)) (show bx ≠ be by omega)) (show bx ≠ be by omega)) (show bx ≠ be by omega)) (show bx ≠ be by omega)) (show bx ≠ be by omega)) (show bx ≠ be by omega)) (show bx ≠ be by omega)) (show bx ≠ be by omega)) (show bx ≠ be by omega)) (show bx ≠ be by omega)), (keep1 (keep1 (keep1 (keep1 (keep1 (keep1 (keep1 (keep1 (keep1 (keep1 (keep1 (keep1 (keep1 (keep1 (by assumption) (show bx ≠ be by omega)) (show bx ≠ be by omega)) (show bx ≠ be by omega)) (show bx ≠ be by omega)) (show bx ≠ be by omega)) (show bx ≠ be by omega)) (show bx ≠ be by omega)) (show bx ≠ be by omega)) (show bx ≠ be by omega)) (show bx ≠ be by omega)) (show bx ≠ be by omega)) (show bx ≠ be by omega)) (show bx ≠ be by omega)) (show bx ≠ be by omega)), (keep1 (keep1 (keep1 (keep1 (keep1 (keep1 (keep1 (keep1 (keep1 (keep1 (keep1 (keep1 (keep1 (keep1 (by assumption) (show bx ≠ be by omega)) (show bx ≠ be by omega)) (show bx ≠ be by omega)) (show bx ≠ be by omega)) (show bx ≠ be by omega)) (show bx ≠ be by omega)) (show bx ≠ be by omega)) (show bx ≠ be by omega)) (show bx ≠ be by omega)) (show bx ≠ be by omega)) (show bx ≠ be by omega)) (show bx ≠ be by omega)) (show bx ≠ be by omega)) (show bx ≠ be by omega))⟩ | exact ⟨y0, y1, y2⟩) (first
              | ((with_reducible refine (Whole_X (a := kn + u) (by omega) (by omega) (by assumption)).mono ?_); rintro e w' ⟨vW, φW, rfl, hX, hvW, hlW⟩; obtain ⟨u0, u1, u2⟩ := hcE.out _ _ hX)
              | ((with_reducible refine (Whole_X (a := kn) (by omega) (by omega) (by assumption)).mono ?_); rintro e w' ⟨vW, φW, rfl, hX, hvW, hlW⟩; obtain ⟨u0, u1, u2⟩ := hcE.out _ _ hX)
              | ((with_reducible refine (Whole_X (a := met) (by omega) (by omega) (by assumption)).mono ?_); rintro e w' ⟨vW, φW, rfl, hX, hvW, hlW⟩; obtain ⟨u0, u1, u2⟩ := hcE.out _ _ hX)
              | ((with_reducible refine (rate_X (a := d) (y := ((kn + u : Int) : Rat)) HP9 (by omega) (by omega) (by assumption) (by omega) (by omega) (by omega) kk1 hS1 (by assumption)).mono ?_); rintro e w' ⟨rfl, hX⟩; obtain ⟨u0, u1, u2⟩ := hcE.out _ _ hX)
              | ((with_reducible refine (rate_X (a := d + p) (y := ((kn + u : Int) : Rat)) HP9 (by omega) (by omega) (by assumption) (by omega) (by omega) (by omega) kk2 hS2 (by assumption)).mono ?_); rintro e w' ⟨rfl, hX⟩; obtain ⟨u0, u1, u2⟩ := hcE.out _ _ hX)
              | ((with_reducible refine (rate_X (a := d) (y := ((kn : Int) : Rat)) HP9 (by omega) (by omega) (by assumption) (by omega) (by omega) (by omega) kk4 hS4 (by assumption)).mono ?_); rintro e w' ⟨rfl, hX⟩; obtain ⟨u0, u1, u2⟩ := hcE.out _ _ hX)
              | ((with_reducible refine (rate_X (a := d) (y := ((met : Int) : Rat)) HP9 (by omega) (by omega) (by assumption) (by omega) (by omega) (by omega) kk5 hS5 (by assumption)).mono ?_); rintro e w' ⟨rfl, hX⟩; obtain ⟨u0, u1, u2⟩ := hcE.out _ _ hX)
              | ((with_reducible refine (rate_X (a := r) (y := ((kn + u : Int) : Rat)) HP9 (by omega) (by omega) (by assumption) (by omega) (by omega) (by omega) kk6 hS6 (by assumption)).mono ?_); rintro e w' ⟨rfl, hX⟩; obtain ⟨u0, u1, u2⟩ := hcE.out _ _ hX)
              | ((with_reducible refine (rate_E (a := d) HP9 (by omega) (by omega) HEV hNE hDE hME HE hS3 (by assumption)).mono ?_); rintro e w' ⟨rfl, hX⟩; obtain ⟨u0, u1, u2⟩ := hcE.out _ _ hX)
              | ((with_reducible refine (rate_X (a := met) (y := ((kn + u : Int) : Rat)) HP9 (by omega) (by omega) (by assumption) (by omega) (by omega) (by omega) kk7 hS7 (by assumption)).mono ?_); rintro e w' ⟨rfl, hX⟩; obtain ⟨u0, u1, u2⟩ := hcE.out _ _ hX; have r0 : w'.cell? ⟨bx, 0, none⟩ = some (.string ⟨#[]⟩) := hX.out.f.r.k.cell 0; have s0 := hX.out.f.r.k.frz 0; have r1 : w'.cell? ⟨bx, 1, none⟩ = some (.string ⟨#[]⟩) := hX.out.f.r.k.cell 1; have s1 := hX.out.f.r.k.frz 1; have r2 : w'.cell? ⟨bx, 2, none⟩ = some (.string ⟨#[]⟩) := hX.out.f.r.k.cell 2; have s2 := hX.out.f.r.k.frz 2; have r3 : w'.cell? ⟨bx, 3, none⟩ = some (.string ⟨#[]⟩) := hX.out.f.r.k.cell 3; have s3 := hX.out.f.r.k.frz 3; have r4 : w'.cell? ⟨bx, 4, none⟩ = some (.string ⟨#[]⟩) := hX.out.f.r.k.cell 4; have s4 := hX.out.f.r.k.frz 4; have r5 : w'.cell? ⟨bx, 5, none⟩ = some (.string ⟨#[]⟩) := hX.out.f.r.k.cell 5; have s5 := hX.out.f.r.k.frz 5; have r6 : w'.cell? ⟨bx, 6, none⟩ = some (.string ⟨#[]⟩) := hX.out.f.r.k.cell 6; have s6 := hX.out.f.r.k.frz 6; have r7 : w'.cell? ⟨bx, 7, none⟩ = some (.string ⟨#[]⟩) := hX.out.f.r.k.cell 7; have s7 := hX.out.f.r.k.frz 7; have r8 : w'.cell? ⟨bx, 8, none⟩ = some (.string ⟨#[]⟩) := hX.out.f.r.k.cell 8; have s8 := hX.out.f.r.k.frz 8; have r9 : w'.cell? ⟨bx, 9, none⟩ = some (.string ⟨#[]⟩) := hX.out.f.r.k.cell 9; have s9 := hX.out.f.r.k.frz 9; have r10 : w'.cell? ⟨bx, 10, none⟩ = some (.string ⟨#[]⟩) := hX.out.f.r.k.cell 10; have s10 := hX.out.f.r.k.frz 10; have r11 : w'.cell? ⟨bx, 11, none⟩ = some (.string ⟨#[]⟩) := hX.out.f.r.k.cell 11; have s11 := hX.out.f.r.k.frz 11; have r12 : w'.cell? ⟨bx, 12, none⟩ = some (.string ⟨#[]⟩) := hX.out.f.r.k.cell 12; have s12 := hX.out.f.r.k.frz 12; have r13 : w'.cell? ⟨bx, 13, none⟩ = some (.string ⟨#[]⟩) := hX.out.f.r.k.cell 13; have s13 := hX.out.f.r.k.frz 13))
            go_wp2
            have hZ0 := ((((((((((((((hX.out.f.r.set 0 (.string S1.1)).set 1 (.string S1.2.1)).set 2 (.string S2.1)).set 3 (.string S2.2.1)).set 4 (.string S3.1)).set 5 (.string S3.2.1)).set 6 (.string S4.1)).set 7 (.string S4.2.1)).set 8 (.string S5.1)).set 9 (.string S5.2.1)).set 10 (.string S6.1)).set 11 (.string S6.2.1)).set 12 (.string S7.1)).set 13 (.string S7.2.1))
            rw [set14] at hZ0
            have hZ := Lib.hid hZ0
            have hZF := Lib.hid hZ0.inv.bel
            clear hZ0
            have e0 : _ = some (Value.string S1.1) := hZ.out.k.cell 0
            have e1 : _ = some (Value.string S1.2.1) := hZ.out.k.cell 1
            have e2 : _ = some (Value.string S2.1) := hZ.out.k.cell 2
            have e3 : _ = some (Value.string S2.2.1) := hZ.out.k.cell 3
            have e4 : _ = some (Value.string S3.1) := hZ.out.k.cell 4
            have e5 : _ = some (Value.string S3.2.1) := hZ.out.k.cell 5
            have e6 : _ = some (Value.string S4.1) := hZ.out.k.cell 6
            have e7 : _ = some (Value.string S4.2.1) := hZ.out.k.cell 7
            have e8 : _ = some (Value.string S5.1) := hZ.out.k.cell 8
            have e9 : _ = some (Value.string S5.2.1) := hZ.out.k.cell 9
            have e10 : _ = some (Value.string S6.1) := hZ.out.k.cell 10
            have e11 : _ = some (Value.string S6.2.1) := hZ.out.k.cell 11
            have e12 : _ = some (Value.string S7.1) := hZ.out.k.cell 12
            have e13 : _ = some (Value.string S7.2.1) := hZ.out.k.cell 13
            (try simp only [Exit.inBlock, Exit.then])
            refine bodyPost_ret (v := .tuple #[.agg #[.string S1.1, .string S1.2.1, .string S2.1, .string S2.2.1, .string S3.1, .string S3.2.1, .string S4.1, .string S4.2.1, .string S5.1, .string S5.2.1, .string S6.1, .string S6.2.1, .string S7.1, .string S7.2.1], .int .i64 0]) (by simp [results, Tryd.results12, go_sem, e0, e1, e2, e3, e4, e5, e6, e7, e8, e9, e10, e11, e12, e13]) rfl ?_
            exact ⟨by rw [HS.out]; rfl, hZF.out⟩
        · have hkg : ¬ kn + fq > 0 := hkf
          have hkz : kn = 0 := by omega
          have hNE : kn.natAbs ≤ 999999999 := by omega
          have hDE : 1 ≤ 999999999 := by omega
          have hME : d.natAbs * 1 ≤ 999999999 := by omega
          have HEV : Hid (FrX φ5 (.agg #[.bool g5, .slice a8 k5 c8, .slice a9 k6 c9]) ((kn : Rat) + prt (kn * u) (kn + fq)) kn.natAbs 1) := Lib.hid (by
            have hf0 : fq = 0 := by omega
            rw [hkz, hf0, show prt (0 * u) (0 + 0) = 0 from prt_zero _, Rat.add_zero]
            have := HV5.out
            rw [hkz] at this
            exact this)
          have HP9 := HP5
          have HKZ := Lib.hid hkz
          clear hkz
          go_wp2_with fail
          generalize w5.alloc (.cells #[.bool g5, .slice a8 k5 c8, .slice a9 k6 c9] 68) = wx at *
          have hRB := hRX
          have hmet := HMK.out.1
          have w1 : IntKind.i64.wrap (d + p) = d + p := IntWalk.i64_in _ (by omega)
          have w2 : IntKind.i64.wrap (d + p + r) = d + p + r := IntWalk.i64_in _ (by omega)
          have w3 : IntKind.i64.wrap met = met := IntWalk.i64_in _ (by omega)
          have y0 : wx.cell? ⟨be, 0, none⟩ = some (.bool g5) := hRB.out.e.k.cell 0
          have y1 : wx.cell? ⟨be, 1, none⟩ = some (.slice a8 k5 c8) := hRB.out.e.k.cell 1
          have y2 : wx.cell? ⟨be, 2, none⟩ = some (.slice a9 k6 c9) := hRB.out.e.k.cell 2
          have hRd : Hid (RxS w φ φ5 φ5 (bx + 1) (arrO ns) bx be #[.bool g5, (.slice a8 k5 c8), (.slice a9 k6 c9)] wx.drew) := Lib.hid (hRB.out.callB (bdrewN (Below.refl _ wx) 1))
          have hcE := Lib.hid (fun (φ3 : Phi) (W : World) (h : Hid (RxS w φ φ5 φ3 (bx + 1) (arrO ns) bx be #[.bool g5, (.slice a8 k5 c8), (.slice a9 k6 c9)] W)) => (⟨h.out.e.k.cell 0, h.out.e.k.cell 1, h.out.e.k.cell 2⟩ : W.cell? ⟨be, 0, none⟩ = some (.bool g5) ∧ W.cell? ⟨be, 1, none⟩ = some (.slice a8 k5 c8) ∧ W.cell? ⟨be, 2, none⟩ = some (.slice a9 k6 c9)))
          have kk1 : Hid ((d : Rat) / ((kn + u : Int) : Rat) = x1) := Lib.hid hx1.out
          have kk2 : Hid (((d + p : Int) : Rat) / ((kn + u : Int) : Rat) = x2) := Lib.hid hx2.out
          have kk4 : Hid ((d : Rat) / ((kn : Int) : Rat) = x4) := Lib.hid hx4.out
          have kk5 : Hid ((d : Rat) / ((met : Int) : Rat) = x5) := Lib.hid hx5.out
          have kk6 : Hid ((r : Rat) / ((kn + u : Int) : Rat) = x6) := Lib.hid hx6.out
          have kk7 : Hid ((met : Rat) / ((kn + u : Int) : Rat) = x7) := Lib.hid hx7.out
          go_region_held3 (fun w' => w'.cell? ⟨be, 0, none⟩ = some (.bool g5) ∧ w'.cell? ⟨be, 1, none⟩ = some (.slice a8 k5 c8) ∧ w'.cell? ⟨be, 2, none⟩ = some (.slice a9 k6 c9)) (first | with_reducible exact ⟨by assumption, by assumption, by assumption⟩ | with_reducible exact ⟨(keep1 (keep1 (keep1 (keep1 (keep1 (keep1 (keep1 (keep1 (keep1 (keep1 (keep1 (keep1 (keep1 (keep1 (by assumption) (show bx ≠ be by omega)) (show bx ≠ be by omega)) (show bx ≠ be by omega)) (show bx ≠ be by omega)) (show bx ≠ be by omega)) (show bx ≠ be by omega)) (show bx ≠ be by omega)) (show bx ≠ be by omega)) (show bx ≠ be by omega)) (show bx ≠ be by omega)) (show bx ≠ be by omega)) (show bx ≠ be by omega)) (show bx ≠ be by omega)) (show bx ≠ be by omega)), (keep1 (keep1 (keep1 (keep1 (keep1 (keep1 (keep1 (keep1 (keep1 (keep1 (keep1 (keep1 (keep1 (keep1 (by assumption) (show bx ≠ be by omega)) (show bx ≠ be by omega)) (show bx ≠ be by omega)) (show bx ≠ be by omega)) (show bx ≠ be by omega)) (show bx ≠ be by omega)) (show bx ≠ be by omega)) (show bx ≠ be by omega)) (show bx ≠ be by omega)) (show bx ≠ be by omega)) (show bx ≠ be by omega)) (show bx ≠ be by omega)) (show bx ≠ be by omega)) (show bx ≠ be by omega)), (keep1 (keep1 (keep1 (keep1 (keep1 (keep1 (keep1 (keep1 (keep1 (keep1 (keep1 (keep1 (keep1 (keep1 (by assumption) (show bx ≠ be by omega)) (show bx ≠ be by omega)) (show bx ≠ be by omega)) (show bx ≠ be by omega)) (show bx ≠ be by omega)) (show bx ≠ be by omega)) (show bx ≠ be by omega)) (show bx ≠ be by omega)) (show bx ≠ be by omega)) (show bx ≠ be by omega)) (show bx ≠ be by omega)) (show bx ≠ be by omega)) (show bx ≠ be by omega)) (show bx ≠ be by omega))⟩ | exact ⟨y0, y1, y2⟩) (first
            | ((with_reducible refine (Whole_X (a := kn + u) (by omega) (by omega) (by assumption)).mono ?_); rintro e w' ⟨vW, φW, rfl, hX, hvW, hlW⟩; obtain ⟨u0, u1, u2⟩ := hcE.out _ _ hX)
            | ((with_reducible refine (Whole_X (a := kn) (by omega) (by omega) (by assumption)).mono ?_); rintro e w' ⟨vW, φW, rfl, hX, hvW, hlW⟩; obtain ⟨u0, u1, u2⟩ := hcE.out _ _ hX)
            | ((with_reducible refine (Whole_X (a := met) (by omega) (by omega) (by assumption)).mono ?_); rintro e w' ⟨vW, φW, rfl, hX, hvW, hlW⟩; obtain ⟨u0, u1, u2⟩ := hcE.out _ _ hX)
            | ((with_reducible refine (rate_X (a := d) (y := ((kn + u : Int) : Rat)) HP9 (by omega) (by omega) (by assumption) (by omega) (by omega) (by omega) kk1 hS1 (by assumption)).mono ?_); rintro e w' ⟨rfl, hX⟩; obtain ⟨u0, u1, u2⟩ := hcE.out _ _ hX)
            | ((with_reducible refine (rate_X (a := d + p) (y := ((kn + u : Int) : Rat)) HP9 (by omega) (by omega) (by assumption) (by omega) (by omega) (by omega) kk2 hS2 (by assumption)).mono ?_); rintro e w' ⟨rfl, hX⟩; obtain ⟨u0, u1, u2⟩ := hcE.out _ _ hX)
            | ((with_reducible refine (rate_X (a := d) (y := ((kn : Int) : Rat)) HP9 (by omega) (by omega) (by assumption) (by omega) (by omega) (by omega) kk4 hS4 (by assumption)).mono ?_); rintro e w' ⟨rfl, hX⟩; obtain ⟨u0, u1, u2⟩ := hcE.out _ _ hX)
            | ((with_reducible refine (rate_X (a := d) (y := ((met : Int) : Rat)) HP9 (by omega) (by omega) (by assumption) (by omega) (by omega) (by omega) kk5 hS5 (by assumption)).mono ?_); rintro e w' ⟨rfl, hX⟩; obtain ⟨u0, u1, u2⟩ := hcE.out _ _ hX)
            | ((with_reducible refine (rate_X (a := r) (y := ((kn + u : Int) : Rat)) HP9 (by omega) (by omega) (by assumption) (by omega) (by omega) (by omega) kk6 hS6 (by assumption)).mono ?_); rintro e w' ⟨rfl, hX⟩; obtain ⟨u0, u1, u2⟩ := hcE.out _ _ hX)
            | ((with_reducible refine (rate_E (a := d) HP9 (by omega) (by omega) HEV hNE hDE hME HE hS3 (by assumption)).mono ?_); rintro e w' ⟨rfl, hX⟩; obtain ⟨u0, u1, u2⟩ := hcE.out _ _ hX)
            | ((with_reducible refine (rate_X (a := met) (y := ((kn + u : Int) : Rat)) HP9 (by omega) (by omega) (by assumption) (by omega) (by omega) (by omega) kk7 hS7 (by assumption)).mono ?_); rintro e w' ⟨rfl, hX⟩; obtain ⟨u0, u1, u2⟩ := hcE.out _ _ hX; have r0 : w'.cell? ⟨bx, 0, none⟩ = some (.string ⟨#[]⟩) := hX.out.f.r.k.cell 0; have s0 := hX.out.f.r.k.frz 0; have r1 : w'.cell? ⟨bx, 1, none⟩ = some (.string ⟨#[]⟩) := hX.out.f.r.k.cell 1; have s1 := hX.out.f.r.k.frz 1; have r2 : w'.cell? ⟨bx, 2, none⟩ = some (.string ⟨#[]⟩) := hX.out.f.r.k.cell 2; have s2 := hX.out.f.r.k.frz 2; have r3 : w'.cell? ⟨bx, 3, none⟩ = some (.string ⟨#[]⟩) := hX.out.f.r.k.cell 3; have s3 := hX.out.f.r.k.frz 3; have r4 : w'.cell? ⟨bx, 4, none⟩ = some (.string ⟨#[]⟩) := hX.out.f.r.k.cell 4; have s4 := hX.out.f.r.k.frz 4; have r5 : w'.cell? ⟨bx, 5, none⟩ = some (.string ⟨#[]⟩) := hX.out.f.r.k.cell 5; have s5 := hX.out.f.r.k.frz 5; have r6 : w'.cell? ⟨bx, 6, none⟩ = some (.string ⟨#[]⟩) := hX.out.f.r.k.cell 6; have s6 := hX.out.f.r.k.frz 6; have r7 : w'.cell? ⟨bx, 7, none⟩ = some (.string ⟨#[]⟩) := hX.out.f.r.k.cell 7; have s7 := hX.out.f.r.k.frz 7; have r8 : w'.cell? ⟨bx, 8, none⟩ = some (.string ⟨#[]⟩) := hX.out.f.r.k.cell 8; have s8 := hX.out.f.r.k.frz 8; have r9 : w'.cell? ⟨bx, 9, none⟩ = some (.string ⟨#[]⟩) := hX.out.f.r.k.cell 9; have s9 := hX.out.f.r.k.frz 9; have r10 : w'.cell? ⟨bx, 10, none⟩ = some (.string ⟨#[]⟩) := hX.out.f.r.k.cell 10; have s10 := hX.out.f.r.k.frz 10; have r11 : w'.cell? ⟨bx, 11, none⟩ = some (.string ⟨#[]⟩) := hX.out.f.r.k.cell 11; have s11 := hX.out.f.r.k.frz 11; have r12 : w'.cell? ⟨bx, 12, none⟩ = some (.string ⟨#[]⟩) := hX.out.f.r.k.cell 12; have s12 := hX.out.f.r.k.frz 12; have r13 : w'.cell? ⟨bx, 13, none⟩ = some (.string ⟨#[]⟩) := hX.out.f.r.k.cell 13; have s13 := hX.out.f.r.k.frz 13))
          go_wp2
          have hZ0 := ((((((((((((((hX.out.f.r.set 0 (.string S1.1)).set 1 (.string S1.2.1)).set 2 (.string S2.1)).set 3 (.string S2.2.1)).set 4 (.string S3.1)).set 5 (.string S3.2.1)).set 6 (.string S4.1)).set 7 (.string S4.2.1)).set 8 (.string S5.1)).set 9 (.string S5.2.1)).set 10 (.string S6.1)).set 11 (.string S6.2.1)).set 12 (.string S7.1)).set 13 (.string S7.2.1))
          rw [set14] at hZ0
          have hZ := Lib.hid hZ0
          have hZF := Lib.hid hZ0.inv.bel
          clear hZ0
          have e0 : _ = some (Value.string S1.1) := hZ.out.k.cell 0
          have e1 : _ = some (Value.string S1.2.1) := hZ.out.k.cell 1
          have e2 : _ = some (Value.string S2.1) := hZ.out.k.cell 2
          have e3 : _ = some (Value.string S2.2.1) := hZ.out.k.cell 3
          have e4 : _ = some (Value.string S3.1) := hZ.out.k.cell 4
          have e5 : _ = some (Value.string S3.2.1) := hZ.out.k.cell 5
          have e6 : _ = some (Value.string S4.1) := hZ.out.k.cell 6
          have e7 : _ = some (Value.string S4.2.1) := hZ.out.k.cell 7
          have e8 : _ = some (Value.string S5.1) := hZ.out.k.cell 8
          have e9 : _ = some (Value.string S5.2.1) := hZ.out.k.cell 9
          have e10 : _ = some (Value.string S6.1) := hZ.out.k.cell 10
          have e11 : _ = some (Value.string S6.2.1) := hZ.out.k.cell 11
          have e12 : _ = some (Value.string S7.1) := hZ.out.k.cell 12
          have e13 : _ = some (Value.string S7.2.1) := hZ.out.k.cell 13
          (try simp only [Exit.inBlock, Exit.then])
          refine bodyPost_ret (v := .tuple #[.agg #[.string S1.1, .string S1.2.1, .string S2.1, .string S2.2.1, .string S3.1, .string S3.2.1, .string S4.1, .string S4.2.1, .string S5.1, .string S5.2.1, .string S6.1, .string S6.2.1, .string S7.1, .string S7.2.1], .int .i64 0]) (by simp [results, Tryd.results12, go_sem, e0, e1, e2, e3, e4, e5, e6, e7, e8, e9, e10, e11, e12, e13]) rfl ?_
          exact ⟨by rw [HS.out]; rfl, hZF.out⟩
end Go.Proofs.YtafcecgcmaoakaaDoor
