/- The walk of the program's Rates. Conditions: the library's table of powers of ten reads as it was laid. -/
import Derived.Test.YtafcecgcmaoakaaDoorX1
import Derived.Test.YtafcecgcmaoakaaDoorW2
import Derived.Test.YtafcecgcmaoakaaDoorP6
import Derived.Deep.RegionHeld3
namespace Go.Proofs.YtafcecgcmaoakaaDoor
open Go.RowKit
set_option linter.unusedVariables false
/-- A row of numbers as cells. -/
def arrO (ns : List Int) : Array Value := (ns.map fun z => Value.int .i64 z).toArray
theorem arrO_at {ns : List Int} {j : Nat} (h : j < ns.length) : (arrO ns)[j]? = some (.int .i64 (ns.getD j 0)) := by
  unfold arrO
  rw [List.getElem?_toArray, List.getElem?_map, List.getElem?_eq_getElem h, getD_elem0 _ _ _ h]; rfl
theorem arrO_set (ns : List Int) (j : Nat) (z : Int) : (arrO ns).setIfInBounds j (.int .i64 z) = arrO (ns.set j z) := by
  unfold arrO
  rw [List.setIfInBounds_toArray, List.map_set]
def zer14 : Array Value := #[.string ⟨#[]⟩, .string ⟨#[]⟩, .string ⟨#[]⟩, .string ⟨#[]⟩, .string ⟨#[]⟩, .string ⟨#[]⟩, .string ⟨#[]⟩, .string ⟨#[]⟩, .string ⟨#[]⟩, .string ⟨#[]⟩, .string ⟨#[]⟩, .string ⟨#[]⟩, .string ⟨#[]⟩, .string ⟨#[]⟩]
theorem set14 (v0 v1 v2 v3 v4 v5 v6 v7 v8 v9 v10 v11 v12 v13 : Value) : ((((((((((((((zer14.setIfInBounds 0 v0).setIfInBounds 1 v1).setIfInBounds 2 v2).setIfInBounds 3 v3).setIfInBounds 4 v4).setIfInBounds 5 v5).setIfInBounds 6 v6).setIfInBounds 7 v7).setIfInBounds 8 v8).setIfInBounds 9 v9).setIfInBounds 10 v10).setIfInBounds 11 v11).setIfInBounds 12 v12).setIfInBounds 13 v13) = #[v0, v1, v2, v3, v4, v5, v6, v7, v8, v9, v10, v11, v12, v13] := by
  unfold zer14
  simp only [List.setIfInBounds_toArray, List.set_cons_zero, List.set_cons_succ]
/-- Texts as values. -/
def strsA (S : List ByteArray) : Array Value := (S.map Value.string).toArray
/-- The texts of a ratio. -/
def two (x : Rat) : List ByteArray := [(ratR x).1, (ratR x).2.1]
/-- The texts of the rates. -/
def ratL (c : List Int) : List ByteArray :=
  let d := c.getD 1 0; let f := c.getD 2 0; let p := c.getD 3 0; let r := c.getD 4 0; let o := c.getD 5 0; let u := c.getD 7 0
  let met := d + p + r + o
  let known := met + c.getD 6 0
  two (prt d (known + u)) ++ two (prt (d + p) (known + u)) ++ two (prt (d * (known + f)) (known * (known + f + u))) ++ two (prt d known) ++ two (prt d met) ++ two (prt r (known + u)) ++ two (prt met (known + u))
/-- The rates of outcomes, as texts, and the error. -/
def ratesR (xs : List Int) : List ByteArray × Int := if ratesF xs ≠ 0 then (List.replicate 14 ⟨#[]⟩, ratesF xs) else (ratL (cntO xs xs.length), 0)
section
variable {w0 W : World} {φ0 φ : Phi} {b g : Nat} {cs ds : Array Value} {T E : TypeId}
theorem share_S {num den : Int} (hp : Hid (PowP φ)) (n0 : 0 ≤ num) (n1 : num ≤ 999999999) (d0 : 0 ≤ den) (d1 : den ≤ 999999999) {x : Rat} (hx : Hid (prt num den = x)) {S : ByteArray × ByteArray × Int} (hR : Hid (ratR x = S)) (h : Hid (Fr2 w0 φ0 φ b cs T g ds E W)) :
    Calls Tryd.prog 28 #[.int .i64 num, .int .i64 den] W (fun e w' => e = .returned (.agg #[.string S.1, .string S.2.1]) ∧ Hid (Fr2 w0 φ0 φ b cs T g ds E w')) := by
  obtain ⟨s, t, f⟩ := S
  refine (share_any (Lib.hid div_one) lenB_one (by omega) (by omega) (by omega) (by omega) (by omega) (by omega) (by omega) h.out.x.inv.fz hp.out (S := s) (T := t) (F := f) (Lib.hid (by rw [← hR.out, ← hx.out]; rfl))).mono ?_
  rintro e w' ⟨rfl, hb⟩
  exact ⟨rfl, Lib.hid (h.out.callB hb)⟩
theorem Fr2.setx (h : Fr2 w0 φ0 φ b cs T g ds E W) (hne : b ≠ g) (j : Nat) (u : Value) : Fr2 w0 φ0 φ b (cs.setIfInBounds j u) T g ds E (W.setCell ⟨b, j, none⟩ u) := ⟨h.x.set j u, h.r.oth h.x hne j u⟩
end
set_option maxRecDepth 100000 in
set_option maxHeartbeats 4000000 in
theorem Rates_any {n : Nat} {a : Option Addr} {cap : Nat} {xs : List Int} {w : World} {φ : Phi} (hφ : Fz φ w) (hp : PowP φ) (s : SlV φ a cap xs) (hn : Hid (xs.length = n)) (hm : n ≤ 9223372036854775807) {S : List ByteArray} {F : Int} (hR : Hid (ratesR xs = (S, F))) :
    Calls Tryd.prog 11 #[.slice a n cap] w (fun e w' => e = .returned (.tuple #[.agg (strsA S), .int .i64 F]) ∧ Below w.heap.size w w') := by
  have hRS := Lib.hid (RsSt.start (Inv.start hφ) zer14 36)
  have HP := Lib.hid hp
  clear hφ hp
  obtain ⟨bx, hbx⟩ : ∃ b, w.heap.size = b := ⟨_, rfl⟩
  rw [hbx] at hRS
  go_enter Tryd.func11, Tryd.ntmps11
  by_cases h5 : 5000 < n
  · have h5i : (5000 : Int) < (n : Int) := by omega
    have hq : Hid (S = List.replicate 14 ⟨#[]⟩ ∧ F = 2) := Lib.hid (by
      have e := hR.out
      have e2 : ratesF xs = 2 := by rw [ratesF, if_pos (by rw [hn.out]; exact h5)]
      rw [ratesR, e2, if_pos (by decide)] at e
      exact ⟨(Prod.mk.inj e).1.symm, (Prod.mk.inj e).2.symm⟩)
    go_wp2
    have hZ0 := hRS.out
    unfold zer14 at hZ0
    have hZ := Lib.hid hZ0
    clear hZ0
    have e0 : _ = some (Value.string ⟨#[]⟩) := hZ.out.k.cell 0
    have e1 : _ = some (Value.string ⟨#[]⟩) := hZ.out.k.cell 1
    have e2 : _ = some (Value.string ⟨#[]⟩) := hZ.out.k.cell 2
    have e3 : _ = some (Value.string ⟨#[]⟩) := hZ.out.k.cell 3
    have e4 : _ = some (Value.string ⟨#[]⟩) := hZ.out.k.cell 4
    have e5 : _ = some (Value.string ⟨#[]⟩) := hZ.out.k.cell 5
    have e6 : _ = some (Value.string ⟨#[]⟩) := hZ.out.k.cell 6
    have e7 : _ = some (Value.string ⟨#[]⟩) := hZ.out.k.cell 7
    have e8 : _ = some (Value.string ⟨#[]⟩) := hZ.out.k.cell 8
    have e9 : _ = some (Value.string ⟨#[]⟩) := hZ.out.k.cell 9
    have e10 : _ = some (Value.string ⟨#[]⟩) := hZ.out.k.cell 10
    have e11 : _ = some (Value.string ⟨#[]⟩) := hZ.out.k.cell 11
    have e12 : _ = some (Value.string ⟨#[]⟩) := hZ.out.k.cell 12
    have e13 : _ = some (Value.string ⟨#[]⟩) := hZ.out.k.cell 13
    (try simp only [Exit.inBlock, Exit.then])
    refine bodyPost_ret (v := .tuple #[.agg #[.string ⟨#[]⟩, .string ⟨#[]⟩, .string ⟨#[]⟩, .string ⟨#[]⟩, .string ⟨#[]⟩, .string ⟨#[]⟩, .string ⟨#[]⟩, .string ⟨#[]⟩, .string ⟨#[]⟩, .string ⟨#[]⟩, .string ⟨#[]⟩, .string ⟨#[]⟩, .string ⟨#[]⟩, .string ⟨#[]⟩], .int .i64 2]) (by simp [results, Tryd.results11, go_sem, e0, e1, e2, e3, e4, e5, e6, e7, e8, e9, e10, e11, e12, e13]) rfl ?_
    exact ⟨by rw [hq.out.1, hq.out.2]; rfl, hRS.out.inv.bel⟩
  · have h5i : ¬ (5000 : Int) < (n : Int) := by omega
    have hF0 : Hid (Fr2 w φ φ (bx + 1) (arrO (List.replicate 8 0)) 63 bx zer14 36 ((w.alloc (.cells zer14 36)).alloc (.cells (arrO (List.replicate 8 0)) 63))) := Lib.hid (by
      have h1 := RsSt.start hRS.out.inv (arrO (List.replicate 8 0)) 63
      rw [alloc_sz, hbx] at h1
      exact ⟨h1, hRS.out.callB ((Below.refl _ _).alloc (Nat.le_refl _) _)⟩)
    have hm5 : n ≤ 5000 := by omega
    clear h5
    go_wp2
    go_loopw [6, 19] (fun ov iv wr => ∃ (k : Nat) (ns : List Int), k ≤ n ∧ iv = .int .i64 (k : Int) ∧ Hid (∀ i, i < k → oBad xs i = 0) ∧ Hid (cntO xs k = ns) ∧ Hid (Fr2 w φ φ (bx + 1) (arrO ns) 63 bx zer14 36 wr)) (fun _ iv _ => n - (intOf iv).toNat)
    case atStart => exact ⟨0, List.replicate 8 0, Nat.zero_le _, rfl, Lib.hid (fun i hi => by omega), Lib.hid rfl, hF0⟩
    case round =>
      clear hF0
      obtain ⟨k, ns, hk, rfl, hz, hc, hS⟩ := hrel
      have hlen : Hid (ns.length = 8) := Lib.hid (by rw [← hc.out]; exact cntO_len xs k)
      by_cases hlt : k < n
      · obtain ⟨b, off, rfl, f⟩ := s.intsD hn hlt
        obtain ⟨_, d1⟩ := f k hlt wr hS.out.x.inv.fz
        have hil : (k : Int) < (n : Int) := by omega
        clear f
        obtain ⟨q, hq⟩ : ∃ q, Hid (outB (xs.getD k 0) 1 7 = q) := ⟨_, Lib.hid rfl⟩
        have hnx : Hid (cntO xs (k + 1) = (cntO xs k).set (xs.getD k 0).toNat ((cntO xs k).getD (xs.getD k 0).toNat 0 + 1)) := Lib.hid rfl
        have hbk : Hid (oBad xs k = if outB (xs.getD k 0) 1 7 = true then 4 else 0) := Lib.hid rfl
        generalize xs.getD k 0 = o at *
        cases q
        · obtain ⟨o1, o7⟩ := outB_false.1 hq.out
          obtain ⟨j, rfl⟩ : ∃ j : Nat, o = (j : Int) := ⟨o.toNat, by omega⟩
          obtain ⟨v, hv⟩ : ∃ v, Hid (ns.getD j 0 = v) := ⟨_, Lib.hid rfl⟩
          have hvb : 0 ≤ v ∧ v ≤ (k : Int) := by have := cntO_bd xs k j; rw [hc.out, hv.out] at this; exact this
          obtain ⟨hv0, hv1⟩ := hvb
          have c1 : wr.cell? ⟨bx + 1, j, none⟩ = some (.int .i64 v) := by rw [hS.out.x.k.cell j, arrO_at (by rw [hlen.out]; omega), hv.out]
          have c2 := hS.out.x.k.frz j
          have hz2 : Hid (∀ i, i < k + 1 → oBad xs i = 0) := Lib.hid (fun i hi => by
            by_cases e : i = k
            · subst e; rw [hbk.out, hq.out]; rfl
            · exact hz.out i (by omega))
          have hnx2 : Hid (cntO xs (k + 1) = ns.set j (v + 1)) := Lib.hid (by rw [hnx.out, Int.toNat_natCast, hc.out, hv.out])
          have hS2 : Hid (Fr2 w φ φ (bx + 1) (arrO (ns.set j (v + 1))) 63 bx zer14 36 (wr.setCell ⟨bx + 1, j, none⟩ (.int .i64 (v + 1)))) := Lib.hid (by
            rw [← arrO_set]; exact hS.out.setx (by omega) j _)
          have hj8 : (j : Int) < 8 := by omega
          have hj0 : (0 : Int) ≤ (j : Int) := by omega
          clear hnx hbk
          go_wp2_with (go_at_call 27; refine (sout_b hq.out _).mono ?_; rintro e w' ⟨rfl, rfl⟩)
          go_roundw
          case rel => exact ⟨k + 1, ns.set j (v + 1), by omega, by go_num, hz2, hnx2, hS2⟩
          case measure => simp [intOf]; omega
        · have hFF : Hid (ratesF xs = 4) := Lib.hid (by
            rw [ratesF, if_neg (by rw [hn.out]; omega), hn.out, scan_stop hz.out hlt (by rw [hbk.out, hq.out]; decide), hbk.out, hq.out]; rfl)
          have r0 : wr.cell? ⟨bx, 0, none⟩ = some (.string ⟨#[]⟩) := hS.out.r.k.cell 0
          have s0 := hS.out.r.k.frz 0
          have r1 : wr.cell? ⟨bx, 1, none⟩ = some (.string ⟨#[]⟩) := hS.out.r.k.cell 1
          have s1 := hS.out.r.k.frz 1
          have r2 : wr.cell? ⟨bx, 2, none⟩ = some (.string ⟨#[]⟩) := hS.out.r.k.cell 2
          have s2 := hS.out.r.k.frz 2
          have r3 : wr.cell? ⟨bx, 3, none⟩ = some (.string ⟨#[]⟩) := hS.out.r.k.cell 3
          have s3 := hS.out.r.k.frz 3
          have r4 : wr.cell? ⟨bx, 4, none⟩ = some (.string ⟨#[]⟩) := hS.out.r.k.cell 4
          have s4 := hS.out.r.k.frz 4
          have r5 : wr.cell? ⟨bx, 5, none⟩ = some (.string ⟨#[]⟩) := hS.out.r.k.cell 5
          have s5 := hS.out.r.k.frz 5
          have r6 : wr.cell? ⟨bx, 6, none⟩ = some (.string ⟨#[]⟩) := hS.out.r.k.cell 6
          have s6 := hS.out.r.k.frz 6
          have r7 : wr.cell? ⟨bx, 7, none⟩ = some (.string ⟨#[]⟩) := hS.out.r.k.cell 7
          have s7 := hS.out.r.k.frz 7
          have r8 : wr.cell? ⟨bx, 8, none⟩ = some (.string ⟨#[]⟩) := hS.out.r.k.cell 8
          have s8 := hS.out.r.k.frz 8
          have r9 : wr.cell? ⟨bx, 9, none⟩ = some (.string ⟨#[]⟩) := hS.out.r.k.cell 9
          have s9 := hS.out.r.k.frz 9
          have r10 : wr.cell? ⟨bx, 10, none⟩ = some (.string ⟨#[]⟩) := hS.out.r.k.cell 10
          have s10 := hS.out.r.k.frz 10
          have r11 : wr.cell? ⟨bx, 11, none⟩ = some (.string ⟨#[]⟩) := hS.out.r.k.cell 11
          have s11 := hS.out.r.k.frz 11
          have r12 : wr.cell? ⟨bx, 12, none⟩ = some (.string ⟨#[]⟩) := hS.out.r.k.cell 12
          have s12 := hS.out.r.k.frz 12
          have r13 : wr.cell? ⟨bx, 13, none⟩ = some (.string ⟨#[]⟩) := hS.out.r.k.cell 13
          have s13 := hS.out.r.k.frz 13
          have hqq : Hid (S = List.replicate 14 ⟨#[]⟩ ∧ F = 4) := Lib.hid (by
            have e := hR.out
            rw [ratesR, hFF.out, if_pos (by decide)] at e
            exact ⟨(Prod.mk.inj e).1.symm, (Prod.mk.inj e).2.symm⟩)
          go_wp2_with (go_at_call 27; refine (sout_b hq.out _).mono ?_; rintro e w' ⟨rfl, rfl⟩)
          have hZ := Lib.hid ((((((((((((((hS.out.r.set 0 (.string ⟨#[]⟩)).set 1 (.string ⟨#[]⟩)).set 2 (.string ⟨#[]⟩)).set 3 (.string ⟨#[]⟩)).set 4 (.string ⟨#[]⟩)).set 5 (.string ⟨#[]⟩)).set 6 (.string ⟨#[]⟩)).set 7 (.string ⟨#[]⟩)).set 8 (.string ⟨#[]⟩)).set 9 (.string ⟨#[]⟩)).set 10 (.string ⟨#[]⟩)).set 11 (.string ⟨#[]⟩)).set 12 (.string ⟨#[]⟩)).set 13 (.string ⟨#[]⟩))
          have e0 : _ = some (Value.string ⟨#[]⟩) := hZ.out.k.cell 0
          have e1 : _ = some (Value.string ⟨#[]⟩) := hZ.out.k.cell 1
          have e2 : _ = some (Value.string ⟨#[]⟩) := hZ.out.k.cell 2
          have e3 : _ = some (Value.string ⟨#[]⟩) := hZ.out.k.cell 3
          have e4 : _ = some (Value.string ⟨#[]⟩) := hZ.out.k.cell 4
          have e5 : _ = some (Value.string ⟨#[]⟩) := hZ.out.k.cell 5
          have e6 : _ = some (Value.string ⟨#[]⟩) := hZ.out.k.cell 6
          have e7 : _ = some (Value.string ⟨#[]⟩) := hZ.out.k.cell 7
          have e8 : _ = some (Value.string ⟨#[]⟩) := hZ.out.k.cell 8
          have e9 : _ = some (Value.string ⟨#[]⟩) := hZ.out.k.cell 9
          have e10 : _ = some (Value.string ⟨#[]⟩) := hZ.out.k.cell 10
          have e11 : _ = some (Value.string ⟨#[]⟩) := hZ.out.k.cell 11
          have e12 : _ = some (Value.string ⟨#[]⟩) := hZ.out.k.cell 12
          have e13 : _ = some (Value.string ⟨#[]⟩) := hZ.out.k.cell 13
          (try simp only [Exit.inBlock, Exit.then])
          refine bodyPost_ret (v := .tuple #[.agg #[.string ⟨#[]⟩, .string ⟨#[]⟩, .string ⟨#[]⟩, .string ⟨#[]⟩, .string ⟨#[]⟩, .string ⟨#[]⟩, .string ⟨#[]⟩, .string ⟨#[]⟩, .string ⟨#[]⟩, .string ⟨#[]⟩, .string ⟨#[]⟩, .string ⟨#[]⟩, .string ⟨#[]⟩, .string ⟨#[]⟩], .int .i64 4]) (by simp [results, Tryd.results11, go_sem, e0, e1, e2, e3, e4, e5, e6, e7, e8, e9, e10, e11, e12, e13]) rfl ?_
          exact ⟨by rw [hqq.out.1, hqq.out.2]; rfl, hZ.out.inv.bel⟩
      · obtain rfl : k = n := by omega
        have hFF : Hid (ratesF xs = 0) := Lib.hid (by rw [ratesF, if_neg (by rw [hn.out]; omega), hn.out, scan_zero _ _ hz.out])
        have hL : Hid (ratL ns = S ∧ F = 0) := Lib.hid (by
          have e := hR.out
          rw [ratesR, hFF.out, if_neg (by simp), hn.out, hc.out] at e
          exact ⟨(Prod.mk.inj e).1, (Prod.mk.inj e).2.symm⟩)
        have hcj := Lib.hid (fun (j : Nat) (hj : j < 8) (W : World) (h : Fr2 w φ φ (bx + 1) (arrO ns) 63 bx zer14 36 W) => (show W.cell? ⟨bx + 1, j, none⟩ = some (.int .i64 (ns.getD j 0)) by rw [h.x.k.cell j, arrO_at (by rw [hlen.out]; exact hj)]))
        have hbd := Lib.hid (fun j => (by have := cntO_bd xs k j; rw [hc.out] at this; exact this : 0 ≤ ns.getD j 0 ∧ ns.getD j 0 ≤ (k : Int)))
        obtain ⟨hL1, rfl⟩ := hL.out
        unfold ratL at hL1
        simp only at hL1
        have c1 := hcj.out 1 (by omega) wr hS.out
        have c2 := hcj.out 2 (by omega) wr hS.out
        have c3 := hcj.out 3 (by omega) wr hS.out
        have c4 := hcj.out 4 (by omega) wr hS.out
        have c5 := hcj.out 5 (by omega) wr hS.out
        have c6 := hcj.out 6 (by omega) wr hS.out
        have c7 := hcj.out 7 (by omega) wr hS.out
        obtain ⟨a1, b1⟩ := hbd.out 1
        obtain ⟨a2, b2⟩ := hbd.out 2
        obtain ⟨a3, b3⟩ := hbd.out 3
        obtain ⟨a4, b4⟩ := hbd.out 4
        obtain ⟨a5, b5⟩ := hbd.out 5
        obtain ⟨a6, b6⟩ := hbd.out 6
        obtain ⟨a7, b7⟩ := hbd.out 7
        have h3 := Lib.hid (fun (W : World) (h : Fr2 w φ φ (bx + 1) (arrO ns) 63 bx zer14 36 W) => hcj.out 3 (by omega) W h)
        have h4 := Lib.hid (fun (W : World) (h : Fr2 w φ φ (bx + 1) (arrO ns) 63 bx zer14 36 W) => hcj.out 4 (by omega) W h)
        generalize ns.getD 1 0 = d at *
        generalize ns.getD 2 0 = fq at *
        generalize ns.getD 3 0 = p at *
        generalize ns.getD 4 0 = r at *
        generalize ns.getD 5 0 = o at *
        generalize ns.getD 6 0 = nc at *
        generalize ns.getD 7 0 = u at *
        clear hcj hbd hL
        have HL := Lib.hid hL1
        clear hL1
        go_wp2
        go_quiet (fail)
        go_wp2
        rename Nat => nq
        obtain ⟨met, hmet⟩ : ∃ m, d + p + r + o = m := ⟨_, rfl⟩
        obtain ⟨kn, hkn⟩ : ∃ m, met + nc = m := ⟨_, rfl⟩
        have hL1 := HL.out
        rw [hmet, hkn] at hL1
        rw [hmet, hkn]
        have q1 : 0 ≤ met ∧ met ≤ 20000 ∧ 0 ≤ kn ∧ kn ≤ 25000 := by omega
        obtain ⟨q1, q2, q3, q4⟩ := q1
        have m1 : 0 ≤ d * (kn + fq) := Int.mul_nonneg (by omega) (by omega)
        have m2 : d * (kn + fq) ≤ 5000 * 30000 := Int.mul_le_mul (by omega) (by omega) (by omega) (by omega)
        have m3 : 0 ≤ kn * (kn + fq + u) := Int.mul_nonneg (by omega) (by omega)
        have m4 : kn * (kn + fq + u) ≤ 25000 * 35000 := Int.mul_le_mul (by omega) (by omega) (by omega) (by omega)
        obtain ⟨x1, hx1⟩ : ∃ x, Hid (prt d (kn + u) = x) := ⟨_, Lib.hid rfl⟩
        obtain ⟨S1, hS1⟩ : ∃ x, Hid (ratR x1 = x) := ⟨_, Lib.hid rfl⟩
        obtain ⟨x2, hx2⟩ : ∃ x, Hid (prt (d + p) (kn + u) = x) := ⟨_, Lib.hid rfl⟩
        obtain ⟨S2, hS2⟩ : ∃ x, Hid (ratR x2 = x) := ⟨_, Lib.hid rfl⟩
        obtain ⟨x3, hx3⟩ : ∃ x, Hid (prt (d * (kn + fq)) (kn * (kn + fq + u)) = x) := ⟨_, Lib.hid rfl⟩
        obtain ⟨S3, hS3⟩ : ∃ x, Hid (ratR x3 = x) := ⟨_, Lib.hid rfl⟩
        obtain ⟨x4, hx4⟩ : ∃ x, Hid (prt d kn = x) := ⟨_, Lib.hid rfl⟩
        obtain ⟨S4, hS4⟩ : ∃ x, Hid (ratR x4 = x) := ⟨_, Lib.hid rfl⟩
        obtain ⟨x5, hx5⟩ : ∃ x, Hid (prt d met = x) := ⟨_, Lib.hid rfl⟩
        obtain ⟨S5, hS5⟩ : ∃ x, Hid (ratR x5 = x) := ⟨_, Lib.hid rfl⟩
        obtain ⟨x6, hx6⟩ : ∃ x, Hid (prt r (kn + u) = x) := ⟨_, Lib.hid rfl⟩
        obtain ⟨S6, hS6⟩ : ∃ x, Hid (ratR x6 = x) := ⟨_, Lib.hid rfl⟩
        obtain ⟨x7, hx7⟩ : ∃ x, Hid (prt met (kn + u) = x) := ⟨_, Lib.hid rfl⟩
        obtain ⟨S7, hS7⟩ : ∃ x, Hid (ratR x7 = x) := ⟨_, Lib.hid rfl⟩
        have HS : Hid (S = [S1.1, S1.2.1, S2.1, S2.2.1, S3.1, S3.2.1, S4.1, S4.2.1, S5.1, S5.2.1, S6.1, S6.2.1, S7.1, S7.2.1]) := Lib.hid (by
          rw [← hL1, hx1.out, hx2.out, hx3.out, hx4.out, hx5.out, hx6.out, hx7.out]
          unfold two
          rw [hS1.out, hS2.out, hS3.out, hS4.out, hS5.out, hS6.out, hS7.out]; rfl)
        clear hL1 HL hmet hkn
        have w1 : IntKind.i64.wrap (kn + u) = kn + u := IntWalk.i64_in _ (by omega)
        have w2 : IntKind.i64.wrap (d + p) = d + p := IntWalk.i64_in _ (by omega)
        have w3 : IntKind.i64.wrap (kn + fq) = kn + fq := IntWalk.i64_in _ (by omega)
        have w4 : IntKind.i64.wrap (d * (kn + fq)) = d * (kn + fq) := IntWalk.i64_in _ (by omega)
        have w5 : IntKind.i64.wrap (kn + fq + u) = kn + fq + u := IntWalk.i64_in _ (by omega)
        have w6 : IntKind.i64.wrap (kn * (kn + fq + u)) = kn * (kn + fq + u) := IntWalk.i64_in _ (by omega)
        have hXd : Hid (Fr2 w φ φ (bx + 1) (arrO ns) 63 bx zer14 36 (wr.drewN (nq + 1))) := Lib.hid (hS.out.callB (bdrewN (Below.refl _ wr) (nq + 1)))
        have c3d := h3.out _ hXd.out
        have c4d := h4.out _ hXd.out
        have r0 : wr.cell? ⟨bx, 0, none⟩ = some (.string ⟨#[]⟩) := hS.out.r.k.cell 0
        have s0 := hS.out.r.k.frz 0
        have r1 : wr.cell? ⟨bx, 1, none⟩ = some (.string ⟨#[]⟩) := hS.out.r.k.cell 1
        have s1 := hS.out.r.k.frz 1
        have r2 : wr.cell? ⟨bx, 2, none⟩ = some (.string ⟨#[]⟩) := hS.out.r.k.cell 2
        have s2 := hS.out.r.k.frz 2
        have r3 : wr.cell? ⟨bx, 3, none⟩ = some (.string ⟨#[]⟩) := hS.out.r.k.cell 3
        have s3 := hS.out.r.k.frz 3
        have r4 : wr.cell? ⟨bx, 4, none⟩ = some (.string ⟨#[]⟩) := hS.out.r.k.cell 4
        have s4 := hS.out.r.k.frz 4
        have r5 : wr.cell? ⟨bx, 5, none⟩ = some (.string ⟨#[]⟩) := hS.out.r.k.cell 5
        have s5 := hS.out.r.k.frz 5
        have r6 : wr.cell? ⟨bx, 6, none⟩ = some (.string ⟨#[]⟩) := hS.out.r.k.cell 6
        have s6 := hS.out.r.k.frz 6
        have r7 : wr.cell? ⟨bx, 7, none⟩ = some (.string ⟨#[]⟩) := hS.out.r.k.cell 7
        have s7 := hS.out.r.k.frz 7
        have r8 : wr.cell? ⟨bx, 8, none⟩ = some (.string ⟨#[]⟩) := hS.out.r.k.cell 8
        have s8 := hS.out.r.k.frz 8
        have r9 : wr.cell? ⟨bx, 9, none⟩ = some (.string ⟨#[]⟩) := hS.out.r.k.cell 9
        have s9 := hS.out.r.k.frz 9
        have r10 : wr.cell? ⟨bx, 10, none⟩ = some (.string ⟨#[]⟩) := hS.out.r.k.cell 10
        have s10 := hS.out.r.k.frz 10
        have r11 : wr.cell? ⟨bx, 11, none⟩ = some (.string ⟨#[]⟩) := hS.out.r.k.cell 11
        have s11 := hS.out.r.k.frz 11
        have r12 : wr.cell? ⟨bx, 12, none⟩ = some (.string ⟨#[]⟩) := hS.out.r.k.cell 12
        have s12 := hS.out.r.k.frz 12
        have r13 : wr.cell? ⟨bx, 13, none⟩ = some (.string ⟨#[]⟩) := hS.out.r.k.cell 13
        have s13 := hS.out.r.k.frz 13
        clear c1 c2 c5 c6 c7
        go_region_held3 (fun w' => w'.cell? ⟨bx + 1, 3, none⟩ = some (.int .i64 p) ∧ w'.cell? ⟨bx + 1, 4, none⟩ = some (.int .i64 r)) (first | with_reducible exact ⟨c3d, c4d⟩ | with_reducible exact ⟨by assumption, by assumption⟩ | with_reducible exact ⟨(keep1 (keep1 (keep1 (keep1 (keep1 (keep1 (keep1 (keep1 (keep1 (keep1 (keep1 (keep1 (keep1 (keep1 (by assumption) (show bx ≠ bx + 1 by omega)) (show bx ≠ bx + 1 by omega)) (show bx ≠ bx + 1 by omega)) (show bx ≠ bx + 1 by omega)) (show bx ≠ bx + 1 by omega)) (show bx ≠ bx + 1 by omega)) (show bx ≠ bx + 1 by omega)) (show bx ≠ bx + 1 by omega)) (show bx ≠ bx + 1 by omega)) (show bx ≠ bx + 1 by omega)) (show bx ≠ bx + 1 by omega)) (show bx ≠ bx + 1 by omega)) (show bx ≠ bx + 1 by omega)) (show bx ≠ bx + 1 by omega)), (keep1 (keep1 (keep1 (keep1 (keep1 (keep1 (keep1 (keep1 (keep1 (keep1 (keep1 (keep1 (keep1 (keep1 (by assumption) (show bx ≠ bx + 1 by omega)) (show bx ≠ bx + 1 by omega)) (show bx ≠ bx + 1 by omega)) (show bx ≠ bx + 1 by omega)) (show bx ≠ bx + 1 by omega)) (show bx ≠ bx + 1 by omega)) (show bx ≠ bx + 1 by omega)) (show bx ≠ bx + 1 by omega)) (show bx ≠ bx + 1 by omega)) (show bx ≠ bx + 1 by omega)) (show bx ≠ bx + 1 by omega)) (show bx ≠ bx + 1 by omega)) (show bx ≠ bx + 1 by omega)) (show bx ≠ bx + 1 by omega))⟩ | exact ⟨c3d, c4d⟩) (first
          | ((with_reducible refine (share_S (num := d) (den := kn + u) HP (by omega) (by omega) (by omega) (by omega) hx1 hS1 (by assumption)).mono ?_); rintro e w' ⟨rfl, hX⟩; have z3 := h3.out _ hX.out; have z4 := h4.out _ hX.out)
          | ((with_reducible refine (share_S (num := d + p) (den := kn + u) HP (by omega) (by omega) (by omega) (by omega) hx2 hS2 (by assumption)).mono ?_); rintro e w' ⟨rfl, hX⟩; have z3 := h3.out _ hX.out; have z4 := h4.out _ hX.out)
          | ((with_reducible refine (share_S (num := d * (kn + fq)) (den := kn * (kn + fq + u)) HP (by omega) (by omega) (by omega) (by omega) hx3 hS3 (by assumption)).mono ?_); rintro e w' ⟨rfl, hX⟩; have z3 := h3.out _ hX.out; have z4 := h4.out _ hX.out)
          | ((with_reducible refine (share_S (num := d) (den := kn) HP (by omega) (by omega) (by omega) (by omega) hx4 hS4 (by assumption)).mono ?_); rintro e w' ⟨rfl, hX⟩; have z3 := h3.out _ hX.out; have z4 := h4.out _ hX.out)
          | ((with_reducible refine (share_S (num := d) (den := met) HP (by omega) (by omega) (by omega) (by omega) hx5 hS5 (by assumption)).mono ?_); rintro e w' ⟨rfl, hX⟩; have z3 := h3.out _ hX.out; have z4 := h4.out _ hX.out)
          | ((with_reducible refine (share_S (num := r) (den := kn + u) HP (by omega) (by omega) (by omega) (by omega) hx6 hS6 (by assumption)).mono ?_); rintro e w' ⟨rfl, hX⟩; have z3 := h3.out _ hX.out; have z4 := h4.out _ hX.out)
          | ((with_reducible refine (share_S (num := met) (den := kn + u) HP (by omega) (by omega) (by omega) (by omega) hx7 hS7 (by assumption)).mono ?_); rintro e w' ⟨rfl, hX⟩; have z3 := h3.out _ hX.out; have z4 := h4.out _ hX.out; have r0 : w'.cell? ⟨bx, 0, none⟩ = some (.string ⟨#[]⟩) := hX.out.r.k.cell 0; have s0 := hX.out.r.k.frz 0; have r1 : w'.cell? ⟨bx, 1, none⟩ = some (.string ⟨#[]⟩) := hX.out.r.k.cell 1; have s1 := hX.out.r.k.frz 1; have r2 : w'.cell? ⟨bx, 2, none⟩ = some (.string ⟨#[]⟩) := hX.out.r.k.cell 2; have s2 := hX.out.r.k.frz 2; have r3 : w'.cell? ⟨bx, 3, none⟩ = some (.string ⟨#[]⟩) := hX.out.r.k.cell 3; have s3 := hX.out.r.k.frz 3; have r4 : w'.cell? ⟨bx, 4, none⟩ = some (.string ⟨#[]⟩) := hX.out.r.k.cell 4; have s4 := hX.out.r.k.frz 4; have r5 : w'.cell? ⟨bx, 5, none⟩ = some (.string ⟨#[]⟩) := hX.out.r.k.cell 5; have s5 := hX.out.r.k.frz 5; have r6 : w'.cell? ⟨bx, 6, none⟩ = some (.string ⟨#[]⟩) := hX.out.r.k.cell 6; have s6 := hX.out.r.k.frz 6; have r7 : w'.cell? ⟨bx, 7, none⟩ = some (.string ⟨#[]⟩) := hX.out.r.k.cell 7; have s7 := hX.out.r.k.frz 7; have r8 : w'.cell? ⟨bx, 8, none⟩ = some (.string ⟨#[]⟩) := hX.out.r.k.cell 8; have s8 := hX.out.r.k.frz 8; have r9 : w'.cell? ⟨bx, 9, none⟩ = some (.string ⟨#[]⟩) := hX.out.r.k.cell 9; have s9 := hX.out.r.k.frz 9; have r10 : w'.cell? ⟨bx, 10, none⟩ = some (.string ⟨#[]⟩) := hX.out.r.k.cell 10; have s10 := hX.out.r.k.frz 10; have r11 : w'.cell? ⟨bx, 11, none⟩ = some (.string ⟨#[]⟩) := hX.out.r.k.cell 11; have s11 := hX.out.r.k.frz 11; have r12 : w'.cell? ⟨bx, 12, none⟩ = some (.string ⟨#[]⟩) := hX.out.r.k.cell 12; have s12 := hX.out.r.k.frz 12; have r13 : w'.cell? ⟨bx, 13, none⟩ = some (.string ⟨#[]⟩) := hX.out.r.k.cell 13; have s13 := hX.out.r.k.frz 13))
        have hX9 : Hid (Fr2 w φ φ (bx + 1) (arrO ns) 63 bx zer14 36 w') := hX
        go_wp2
        have hZ0 := ((((((((((((((hX9.out.r.set 0 (.string S1.1)).set 1 (.string S1.2.1)).set 2 (.string S2.1)).set 3 (.string S2.2.1)).set 4 (.string S3.1)).set 5 (.string S3.2.1)).set 6 (.string S4.1)).set 7 (.string S4.2.1)).set 8 (.string S5.1)).set 9 (.string S5.2.1)).set 10 (.string S6.1)).set 11 (.string S6.2.1)).set 12 (.string S7.1)).set 13 (.string S7.2.1))
        rw [set14] at hZ0
        have hZ := Lib.hid hZ0
        have hZF := Lib.hid hZ0.inv.bel
        clear hZ0
        have e0 : _ = some (Value.string S1.1) := hZ.out.k.cell 0
        have e1 : _ = some (Value.string S1.2.1) := hZ.out.k.cell 1
        have e2 : _ = some (Value.string S2.1) := hZ.out.k.cell 2
        have e3 : _ = some (Value.string S2.2.1) := hZ.out.k.cell 3
        have e4 : _ = some (Value.string S3.1) := hZ.out.k.cell 4
        have e5 : _ = some (Value.string S3.2.1) := hZ.out.k.cell 5
        have e6 : _ = some (Value.string S4.1) := hZ.out.k.cell 6
        have e7 : _ = some (Value.string S4.2.1) := hZ.out.k.cell 7
        have e8 : _ = some (Value.string S5.1) := hZ.out.k.cell 8
        have e9 : _ = some (Value.string S5.2.1) := hZ.out.k.cell 9
        have e10 : _ = some (Value.string S6.1) := hZ.out.k.cell 10
        have e11 : _ = some (Value.string S6.2.1) := hZ.out.k.cell 11
        have e12 : _ = some (Value.string S7.1) := hZ.out.k.cell 12
        have e13 : _ = some (Value.string S7.2.1) := hZ.out.k.cell 13
        (try simp only [Exit.inBlock, Exit.then])
        refine bodyPost_ret (v := .tuple #[.agg #[.string S1.1, .string S1.2.1, .string S2.1, .string S2.2.1, .string S3.1, .string S3.2.1, .string S4.1, .string S4.2.1, .string S5.1, .string S5.2.1, .string S6.1, .string S6.2.1, .string S7.1, .string S7.2.1], .int .i64 0]) (by simp [results, Tryd.results11, go_sem, e0, e1, e2, e3, e4, e5, e6, e7, e8, e9, e10, e11, e12, e13]) rfl ?_
        exact ⟨by rw [HS.out]; rfl, hZF.out⟩
end Go.Proofs.YtafcecgcmaoakaaDoor
