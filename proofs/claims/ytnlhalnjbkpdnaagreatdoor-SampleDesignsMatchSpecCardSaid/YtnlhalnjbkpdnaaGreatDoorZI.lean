/- The walk of take, the reference's side; parts of whole numbers over a state that lasts. The walk of chance, the reference's side. Conditions: the take fits the stratum's units. The walk of Chances, the reference's side. Conditions: the library's tables of blanks and of powers of ten read as they were laid; texts of a length that a form reaches. The walk of Chances, the reference's side. Conditions: the library's tables of blanks and of powers of ten read as they were laid; texts of a length that a form reaches. Conditions: none beyond what the claim form gives. -/
import Derived.Test.YtnlhalnjbkpdnaaGreatDoorZH
import Derived.Test.YtnlhalnjbkpdnaaGreatDoorBD
namespace Go.Proofs.YtnlhalnjbkpdnaaGreatDoor
open Go.RowKit Go.Sort
set_option linter.unusedVariables false
set_option linter.unusedSimpArgs false
theorem tkOf_hit {ts : List Tak} {s : ByteArray} {k n : Nat} (hn : ts.length = n) (hk : k < n) (hp : (ts.getD k tak0).1 = s) (h0 : ∀ i, i < k → ¬ (ts.getD i tak0).1 = s) : tkOf ts s = ts.getD k tak0 := by
  subst hn
  rw [getD_elem0 _ _ _ hk] at hp ⊢
  unfold tkOf
  have hf : ts.find? (fun t => decide (t.1 = s)) = some ts[k] := by
    rw [List.find?_eq_some_iff_getElem]
    refine ⟨by simp [hp], k, hk, rfl, fun j hj => ?_⟩
    have := h0 j hj
    rw [getD_elem0 _ _ _ (by omega)] at this
    simp [this]
  rw [hf]; rfl
theorem tkOf_none {ts : List Tak} {s : ByteArray} {n : Nat} (hn : ts.length = n) (h0 : ∀ i, i < n → ¬ (ts.getD i tak0).1 = s) : tkOf ts s = tak0 := by
  subst hn
  unfold tkOf
  have hf : ts.find? (fun t => decide (t.1 = s)) = none := by
    rw [List.find?_eq_none]
    intro t ht
    obtain ⟨i, hi, rfl⟩ := List.getElem_of_mem ht
    have := h0 i hi
    rw [getD_elem0 _ _ _ hi] at this
    simp [this]
  rw [hf]; rfl
set_option maxRecDepth 100000 in
set_option maxHeartbeats 2000000 in
theorem Rtake_any {w : World} {kind : Int} {aT : Option Addr} {cT nT : Nat} {ts : List Tak} {φ : Phi} (hφ : Fz φ w) (st : SlV φ aT cT ts) (hnT : Hid (ts.length = nT)) {z : ByteArray} {s : ByteArray} {t1 t2 : Int} (hz : Hid (tkOf ts z = (s, t1, t2))) :
    Calls Tryz.prog 33 #[.agg #[.int .i64 kind, .slice aT nT cT], .string z] w (fun e w' => e = .returned (.agg #[.string s, .int .i64 t1, .int .i64 t2]) ∧ Below w.heap.size w w') := by
  have hmT : nT ≤ 9223372036854775807 := by have h1 := st.capn; have h2 := st.capm; rw [hnT.out] at h1; unfold maxLen at h2; omega
  obtain ⟨φ1, hle1, hi1, hb1⟩ := (Inv.start hφ).frz (.cells #[.int .i64 kind, .slice aT nT cT] 24)
  have hx0 := RsSt.start hi1 #[.string ⟨#[]⟩, .int .i64 0, .int .i64 0] 73
  have HX0 : Hid (RsSt w φ φ1 (w.heap.size + 1) #[.string ⟨#[]⟩, .int .i64 0, .int .i64 0] 73 ((w.alloc (.cells #[.int .i64 kind, .slice aT nT cT] 24)).alloc (.cells #[.string ⟨#[]⟩, .int .i64 0, .int .i64 0] 73))) := Lib.hid (by simpa only [alloc_sz] using hx0)
  have ST := Lib.hid (st.mono hle1)
  have HB1 := Lib.hid hb1
  clear hx0 hi1 hb1 hle1 hφ st
  go_enter Tryz.func33, Tryz.ntmps33
  go_upto_region 1 with (fail)
  generalize (w.alloc (.cells #[.int .i64 kind, .slice aT nT cT] 24)).alloc (.cells #[.string ⟨#[]⟩, .int .i64 0, .int .i64 0] 73) = w1 at *
  have y1 : w1.cell? ⟨w.heap.size, 1, none⟩ = some (.slice aT nT cT) := box_cell HB1.out φ1.le_refl HX0.out.inv.fz 1
  go_wp2
  clear y1
  go_loopw [10] (fun i wr => ∃ k : Nat, k ≤ nT ∧ i = .int .i64 k ∧ Hid (∀ j, j < k → ¬ (ts.getD j tak0).1 = z) ∧ Hid (RsSt w φ φ1 (w.heap.size + 1) #[.string ⟨#[]⟩, .int .i64 0, .int .i64 0] 73 wr)) (fun i _ => nT - (intOf i).toNat)
  case atStart => exact ⟨0, Nat.zero_le _, rfl, Lib.hid (fun j hj => by omega), HX0⟩
  case round =>
    clear HX0
    obtain ⟨k, hk, rfl, hno, hS⟩ := hrel
    by_cases hlt : k < nT
    · obtain ⟨b, off, rfl, f1⟩ := ST.out.takD hnT hlt
      obtain ⟨hb, c0, c1, c2⟩ := f1 k hlt wr hS.out.inv.fz
      have hhit : Hid ((ts.getD k tak0).1 = z → ts.getD k tak0 = (s, t1, t2)) := Lib.hid (fun h => by rw [← hz.out]; exact (tkOf_hit hnT.out hlt h hno.out).symm)
      have hnx : Hid (¬ (ts.getD k tak0).1 = z → ∀ j, j < k + 1 → ¬ (ts.getD j tak0).1 = z) := Lib.hid (fun h j hj => by
        by_cases e : j = k
        · rw [e]; exact h
        · exact hno.out j (by omega))
      clear f1
      generalize ts.getD k tak0 = X at *
      obtain ⟨x0, x1, x2⟩ := X
      dsimp only at c0 c1 c2 hhit hnx
      have hS2 := Lib.hid (hS.out.callB ((Below.refl _ _).alloc (Nat.le_refl _) (.cells #[.string x0, .int .i64 x1, .int .i64 x2] 73)))
      have hK := Lib.hid (Blk.new wr #[.string x0, .int .i64 x1, .int .i64 x2] 73)
      go_upto_region 4 with (fail)
      clear c0 c1 c2 hb hS
      generalize wr.alloc (.cells #[.string x0, .int .i64 x1, .int .i64 x2] 73) = wj at *
      generalize wr.heap.size = bj at *
      have y0 : wj.cell? ⟨bj, 0, none⟩ = some (.string x0) := hK.out.cell 0
      have y1 : wj.cell? ⟨bj, 1, none⟩ = some (.int .i64 x1) := hK.out.cell 1
      have y2 : wj.cell? ⟨bj, 2, none⟩ = some (.int .i64 x2) := hK.out.cell 2
      have r0 : wj.cell? ⟨w.heap.size + 1, 0, none⟩ = some (.string ⟨#[]⟩) := hS2.out.k.cell 0
      have r1 : wj.cell? ⟨w.heap.size + 1, 1, none⟩ = some (.int .i64 0) := hS2.out.k.cell 1
      have r2 : wj.cell? ⟨w.heap.size + 1, 2, none⟩ = some (.int .i64 0) := hS2.out.k.cell 2
      have r3 := hS2.out.k.frz 0
      have r4 := hS2.out.k.frz 1
      have r5 := hS2.out.k.frz 2
      by_cases he : x0 = z
      · have gz : (x0.toList == z.toList) = true := str_eq_t he
        have HE := Lib.hid (hhit.out he)
        clear he hhit hnx
        go_wp2
        have hZ := Lib.hid (((hS2.out.set 0 (.string x0)).set 1 (.int .i64 x1)).set 2 (.int .i64 x2))
        have e0 : _ = some (Value.string x0) := hZ.out.k.cell 0
        have e1 : _ = some (Value.int .i64 x1) := hZ.out.k.cell 1
        have e2 : _ = some (Value.int .i64 x2) := hZ.out.k.cell 2
        (try simp only [Exit.inBlock, Exit.then])
        refine bodyPost_ret (v := .agg #[.string x0, .int .i64 x1, .int .i64 x2]) (by simp [results, Tryz.results33, go_sem, e0, e1, e2]) rfl ?_
        have e := HE.out
        injection e with e0 e
        injection e with e1 e2
        subst e0 e1 e2
        exact ⟨rfl, hZ.out.inv.bel⟩
      · have gz : (x0.toList == z.toList) = false := str_eq_f he
        have hnx2 := Lib.hid (hnx.out he)
        clear he hhit hnx
        go_wp2
        go_roundw
        case rel => exact ⟨k + 1, by omega, by go_num, hnx2, hS2⟩
        case measure => (simp [intOf] <;> omega)
    · obtain rfl : nT = k := by omega
      have HE : Hid (tak0 = (s, t1, t2)) := Lib.hid (by rw [← hz.out]; exact (tkOf_none hnT.out hno.out).symm)
      have r0 : wr.cell? ⟨w.heap.size + 1, 0, none⟩ = some (.string ⟨#[]⟩) := hS.out.k.cell 0
      have r1 : wr.cell? ⟨w.heap.size + 1, 1, none⟩ = some (.int .i64 0) := hS.out.k.cell 1
      have r2 : wr.cell? ⟨w.heap.size + 1, 2, none⟩ = some (.int .i64 0) := hS.out.k.cell 2
      have r3 := hS.out.k.frz 0
      have r4 := hS.out.k.frz 1
      have r5 := hS.out.k.frz 2
      go_wp2
      have hZ := Lib.hid (((hS.out.set 0 (.string ⟨#[]⟩)).set 1 (.int .i64 0)).set 2 (.int .i64 0))
      have e0 : _ = some (Value.string ⟨#[]⟩) := hZ.out.k.cell 0
      have e1 : _ = some (Value.int .i64 0) := hZ.out.k.cell 1
      have e2 : _ = some (Value.int .i64 0) := hZ.out.k.cell 2
      (try simp only [Exit.inBlock, Exit.then])
      refine bodyPost_ret (v := .agg #[.string ⟨#[]⟩, .int .i64 0, .int .i64 0]) (by simp [results, Tryz.results33, go_sem, e0, e1, e2]) rfl ?_
      have e := HE.out
      unfold tak0 at e
      injection e with e0 e
      injection e with e1 e2
      subst e0 e1 e2
      exact ⟨rfl, hZ.out.inv.bel⟩
theorem RPart_Q {P : Phi → World → Prop} {φ : Phi} {W : World} (hP : StC P) {a b : Int} (hq : 0 ≤ a ∧ a ≤ 100000000000000 ∧ 0 < b ∧ b ≤ 100000000000000) (hS : Hid (P φ W)) :
    Calls Tryz.prog 92 #[.int .i64 a, .int .i64 b] W (FrC P φ ((a : Rat) / (b : Rat)) 100000000000000 100000000000000) := by
  obtain ⟨a', rfl⟩ := Int.eq_ofNat_of_zero_le hq.1
  obtain ⟨b', rfl⟩ := Int.eq_ofNat_of_zero_le (Int.le_of_lt hq.2.2.1)
  have h := RPart_C hP (a := a') (b := b') (N := 100000000000000) (D := 100000000000000) (Lib.hid ⟨by omega, by omega, by omega, by decide, by decide⟩) hS
  rw [Rat.mkRat_eq_div] at h
  exact h
end Go.Proofs.YtnlhalnjbkpdnaaGreatDoor

namespace Go.Proofs.YtnlhalnjbkpdnaaGreatDoor
open Go.RowKit Go.Sort
set_option linter.unusedVariables false
set_option linter.unusedSimpArgs false
/-- A result's cell for an exact number. -/
def RcN (w0 : World) (φ0 : Phi) (br : Nat) (φ : Phi) (W : World) : Prop := RsSt w0 φ0 φ br #[.bool false, .slice none 0 0, .slice none 0 0] 55 W
theorem RcN.fz {w0 W : World} {φ0 φ : Phi} {br : Nat} (h : RcN w0 φ0 br φ W) : Fz φ W := RsSt.inv h |>.fz
theorem RcN.sta (w0 : World) (φ0 : Phi) (br : Nat) : StC (RcN w0 φ0 br) := ⟨fun h => h.inv.fz, fun h hi => RsSt.call h hi⟩
theorem FrX.leD {φ : Phi} {v : Value} {x : Rat} {N D N' D' : Nat} (h : FrX φ v x N D) (hN : N ≤ N') (hD : D ≤ D') : FrX φ v x N' D' := by
  obtain ⟨g, n, d, a1, c1, a2, c2, rfl, s1, s2, h0, h1, h2, h3⟩ := h
  exact ⟨g, n, d, a1, c1, a2, c2, rfl, s1, s2, h0, Nat.le_trans h1 hN, Nat.le_trans h2 hD, h3⟩
set_option maxRecDepth 100000 in
set_option maxHeartbeats 4000000 in
theorem Rchance_any {M : Nat} (hM : Hid (MOk M)) (hRD : Hid (RdivOk M)) {w : World} {kind : Int} (hk : kind = 1 ∨ kind = 2 ∨ kind = 3) {s : ByteArray} {t1 t2 : Int} {a : Option Addr} {c n : Nat} {us : List Unt} {φ : Phi} (hφ : Fz φ w) (sl : SlV φ a c us) (hn : Hid (us.length = n)) (hl : n ≤ 5000) (hok : Hid (∀ u ∈ us, 1 ≤ u.2.2.2 ∧ u.2.2.2 ≤ 1000000)) (ht : Hid (TkOk kind (s, t1, t2) us))
    {u1 : Int} {u2 : ByteArray} {u3 u4 : Int} (hu : Hid ((u1, u2, u3, u4) ∈ us)) {NB : Nat} (hNB : Hid (100000000000000 * 100000000000000 ≤ NB ∧ NB ≤ M)) :
    Calls Tryz.prog 32 #[.int .i64 kind, .agg #[.string s, .int .i64 t1, .int .i64 t2], .slice a n c, .agg #[.int .i64 u1, .string u2, .int .i64 u3, .int .i64 u4]] w (FrXP (chR kind (s, t1, t2) us (u1, u2, u3, u4)) NB NB φ w) := by
  obtain ⟨φ1, hle1, hi1, hb1⟩ := (Inv.start hφ).frz (.cells #[.string s, .int .i64 t1, .int .i64 t2] 73)
  obtain ⟨φ2, hle2, hi2, hb2⟩ := hi1.frz (.cells #[.int .i64 u1, .string u2, .int .i64 u3, .int .i64 u4] 64)
  rw [alloc_sz] at hb2
  have hx0 := RsSt.start hi2 #[.bool false, .slice none 0 0, .slice none 0 0] 55
  have HX0 : Hid (RsSt w φ φ2 (w.heap.size + 1 + 1) #[.bool false, .slice none 0 0, .slice none 0 0] 55 (((w.alloc (.cells #[.string s, .int .i64 t1, .int .i64 t2] 73)).alloc (.cells #[.int .i64 u1, .string u2, .int .i64 u3, .int .i64 u4] 64)).alloc (.cells #[.bool false, .slice none 0 0, .slice none 0 0] 55))) := Lib.hid (by simpa only [alloc_sz] using hx0)
  have SL := Lib.hid (sl.mono (hle1.trans hle2))
  have HB1 := Lib.hid (hle2 _ _ hb1)
  have HB2 := Lib.hid hb2
  clear hx0 hi1 hi2 hb1 hb2 hle1 hle2 hφ sl
  have hfc := Lib.hid (fun (ψ : Phi) (W : World) (hl : φ2.le ψ) (hf : Fz ψ W) => (⟨box_cell HB1.out hl hf 1, box_cell HB1.out hl hf 2, box_cell HB2.out hl hf 2, box_cell HB2.out hl hf 3⟩ : W.cell? ⟨w.heap.size, 1, none⟩ = some (.int .i64 t1) ∧ W.cell? ⟨w.heap.size, 2, none⟩ = some (.int .i64 t2) ∧ W.cell? ⟨w.heap.size + 1, 2, none⟩ = some (.int .i64 u3) ∧ W.cell? ⟨w.heap.size + 1, 3, none⟩ = some (.int .i64 u4)))
  have hn0 : 0 < n := by rw [← hn.out]; exact List.length_pos_of_mem hu.out
  have hE := Lib.hid (els_of (kind := 1) hn.out hn0 hl hok.out)
  obtain ⟨xs, hxs⟩ : ∃ xs, Hid (us.map (fun u => u.2.2.2) = xs) := ⟨_, Lib.hid rfl⟩
  obtain ⟨mx, hmx⟩ : ∃ m, Hid (mxL (elmL 1 us) = m) := ⟨_, Lib.hid rfl⟩
  obtain ⟨sz, hsz⟩ : ∃ m, Hid (szU us = m) := ⟨_, Lib.hid rfl⟩
  have hE : Hid (ElS xs n mx sz) := Lib.hid (by
    have h := hE.out
    rw [hmx.out, hsz.out] at h
    have e : elmL 1 us = xs := hxs.out
    rw [e, ← hxs.out, List.length_map, hn.out] at h
    rw [← hxs.out]; exact h)
  have hus := hok.out _ hu.out
  have hszb := szU_bd hok.out
  rw [hsz.out, hn.out] at hszb
  dsimp only at hus
  have hlo := ht.out.lo
  have hhi := ht.out.hi
  rw [hn.out] at hhi
  dsimp only at hlo hhi
  go_enter Tryz.func32, Tryz.ntmps32
  go_upto_region 1 with (fail)
  generalize ((w.alloc (.cells #[.string s, .int .i64 t1, .int .i64 t2] 73)).alloc (.cells #[.int .i64 u1, .string u2, .int .i64 u3, .int .i64 u4] 64)).alloc (.cells #[.bool false, .slice none 0 0, .slice none 0 0] 55) = w1 at *
  go_upto_region 2 with (first
    | (go_at_call 91; (with_reducible refine (Rsizes_any HX0.out.inv.fz SL.out hn hl).mono ?_); rintro e w5 ⟨a5, c5, φ5, rfl, hi5, s5⟩; rw [hxs.out] at s5 ⊢; rw [hE.out.len]; have HX5 := Lib.hid (HX0.out.call hi5); have S5 := Lib.hid s5; have L5 := Lib.hid hi5.le; clear hi5 s5)
    | (go_at_call 90; (with_reducible refine (total_q HX5.out.inv.fz S5.out hE).mono ?_); rintro e w6 ⟨rfl, hw6⟩; have HX6 : Hid (RsSt w φ φ5 (w.heap.size + 1 + 1) #[.bool false, .slice none 0 0, .slice none 0 0] 55 w6) := Lib.hid (by rw [hw6]; exact HX5.out); clear hw6)
    | fail)
  obtain ⟨y0, y1, y2, y3⟩ := hfc.out φ5 w6 L5.out HX6.out.inv.fz
  have HR6 : Hid (RcN w φ (w.heap.size + 1 + 1) φ5 w6) := HX6
  have N1 : Hid (100000000000000 ≤ NB) := Lib.hid (Nat.le_trans (by decide) hNB.out.1)
  rcases hk with rfl | rfl | rfl
  · have hx : Hid (chR 1 (s, t1, t2) us (u1, u2, u3, u4) = (t1 : Rat) / (((n : Int)) : Rat)) := Lib.hid (by rw [← hn.out]; rfl)
    have hb := Lib.hid (show 0 ≤ t1 ∧ t1 ≤ 100000000000000 ∧ 0 < (n : Int) ∧ (n : Int) ≤ 100000000000000 by omega)
    go_wp2_with (go_at_call 92; (with_reducible refine (RPart_Q (RcN.sta w φ (w.heap.size + 1 + 1)) hb.out HR6).mono ?_); rintro e w7 ⟨g, p1, k1, c1, p2, k2, c2, φ7, rfl, H7, L7, V7⟩; clear y0 y1 y2 y3; have H7 : Hid (RsSt w φ φ7 (w.heap.size + 1 + 1) #[.bool false, .slice none 0 0, .slice none 0 0] 55 w7) := H7; have r0 : w7.cell? ⟨w.heap.size + 1 + 1, 0, none⟩ = some (.bool false) := H7.out.k.cell 0; have r1 : w7.cell? ⟨w.heap.size + 1 + 1, 1, none⟩ = some (.slice none 0 0) := H7.out.k.cell 1; have r2 : w7.cell? ⟨w.heap.size + 1 + 1, 2, none⟩ = some (.slice none 0 0) := H7.out.k.cell 2; have r3 := H7.out.k.frz 0; have r4 := H7.out.k.frz 1; have r5 := H7.out.k.frz 2)
    have hZ := Lib.hid (((H7.out.set 0 (.bool g)).set 1 (.slice p1 k1 c1)).set 2 (.slice p2 k2 c2))
    have e0 : _ = some (Value.bool g) := hZ.out.k.cell 0
    have e1 : _ = some (Value.slice p1 k1 c1) := hZ.out.k.cell 1
    have e2 : _ = some (Value.slice p2 k2 c2) := hZ.out.k.cell 2
    (try simp only [Exit.inBlock, Exit.then])
    refine bodyPost_ret (v := .agg #[.bool g, .slice p1 k1 c1, .slice p2 k2 c2]) (by simp [results, Tryz.results32, go_sem, e0, e1, e2]) rfl ?_
    exact ⟨_, φ7, rfl, hZ.out.inv, by rw [hx.out]; exact V7.out.leD N1.out N1.out⟩
  · have hmu : 0 ≤ t1 * u4 ∧ t1 * u4 ≤ 5000000000 := ⟨Int.mul_nonneg hlo (by omega), Int.le_trans (Int.mul_le_mul (show t1 ≤ 5000 by omega) hus.2 (by omega) (by decide)) (by decide)⟩
    have hw : IntKind.i64.wrap (t1 * u4) = t1 * u4 := IntWalk.i64_in _ (by omega)
    have hx : Hid (chR 2 (s, t1, t2) us (u1, u2, u3, u4) = ((t1 * u4 : Int) : Rat) / ((sz : Int) : Rat)) := Lib.hid (by rw [← hsz.out]; rfl)
    have hb := Lib.hid (show 0 ≤ t1 * u4 ∧ t1 * u4 ≤ 100000000000000 ∧ 0 < sz ∧ sz ≤ 100000000000000 by omega)
    go_wp2_with (go_at_call 92; (with_reducible refine (RPart_Q (RcN.sta w φ (w.heap.size + 1 + 1)) hb.out HR6).mono ?_); rintro e w7 ⟨g, p1, k1, c1, p2, k2, c2, φ7, rfl, H7, L7, V7⟩; clear y0 y1 y2 y3; have H7 : Hid (RsSt w φ φ7 (w.heap.size + 1 + 1) #[.bool false, .slice none 0 0, .slice none 0 0] 55 w7) := H7; have r0 : w7.cell? ⟨w.heap.size + 1 + 1, 0, none⟩ = some (.bool false) := H7.out.k.cell 0; have r1 : w7.cell? ⟨w.heap.size + 1 + 1, 1, none⟩ = some (.slice none 0 0) := H7.out.k.cell 1; have r2 : w7.cell? ⟨w.heap.size + 1 + 1, 2, none⟩ = some (.slice none 0 0) := H7.out.k.cell 2; have r3 := H7.out.k.frz 0; have r4 := H7.out.k.frz 1; have r5 := H7.out.k.frz 2)
    have hZ := Lib.hid (((H7.out.set 0 (.bool g)).set 1 (.slice p1 k1 c1)).set 2 (.slice p2 k2 c2))
    have e0 : _ = some (Value.bool g) := hZ.out.k.cell 0
    have e1 : _ = some (Value.slice p1 k1 c1) := hZ.out.k.cell 1
    have e2 : _ = some (Value.slice p2 k2 c2) := hZ.out.k.cell 2
    (try simp only [Exit.inBlock, Exit.then])
    refine bodyPost_ret (v := .agg #[.bool g, .slice p1 k1 c1, .slice p2 k2 c2]) (by simp [results, Tryz.results32, go_sem, e0, e1, e2]) rfl ?_
    exact ⟨_, φ7, rfl, hZ.out.inv, by rw [hx.out]; exact V7.out.leD N1.out N1.out⟩
  · have hu3 : u3 ∈ cnsL us := mem_cnsL.2 ⟨_, hu.out, rfl⟩
    have hcu : (u1, u2, u3, u4) ∈ clU us u3 := List.mem_filter.2 ⟨hu.out, by simp⟩
    have hz1 := szU_bd (l := clU us u3) (fun u hu => hok.out u (clU_mem hu))
    have hz2 := clU_len us u3
    have hz3 := List.length_pos_of_mem hcu
    have hst := ht.out.st rfl
    have hst2 := hst.2 u3 hu3
    rw [hn.out] at hz2
    obtain ⟨cl, hcl⟩ : ∃ cl, Hid (clU us u3 = cl) := ⟨_, Lib.hid rfl⟩
    obtain ⟨nv, hnv⟩ : ∃ k, Hid (cl.length = k) := ⟨_, Lib.hid rfl⟩
    obtain ⟨cz, hcz⟩ : ∃ k, Hid (szU cl = k) := ⟨_, Lib.hid rfl⟩
    obtain ⟨ys, hys⟩ : ∃ ys, Hid (cl.map (fun u => u.2.2.2) = ys) := ⟨_, Lib.hid rfl⟩
    have hok2 : ∀ u ∈ cl, 1 ≤ u.2.2.2 ∧ u.2.2.2 ≤ 1000000 := fun u hu => by rw [← hcl.out] at hu; exact hok.out u (clU_mem hu)
    rw [hcl.out, hnv.out, hcz.out] at hz1
    rw [hcl.out, hnv.out] at hz2 hz3 hst2
    dsimp only at hst hst2
    have hE2 := Lib.hid (els_of (kind := 1) hnv.out hz3 (show nv ≤ 5000 by omega) hok2)
    obtain ⟨my, hmy⟩ : ∃ m, Hid (mxL (elmL 1 cl) = m) := ⟨_, Lib.hid rfl⟩
    have hE2 : Hid (ElS ys nv my cz) := Lib.hid (by
      have h := hE2.out
      rw [hmy.out, hcz.out] at h
      have e : elmL 1 cl = ys := hys.out
      rw [e, ← hys.out, List.length_map, hnv.out] at h
      rw [← hys.out]; exact h)
    have hmu : 0 ≤ t1 * cz ∧ t1 * cz ≤ 25000000000000 := ⟨Int.mul_nonneg hlo (by omega), Int.le_trans (Int.mul_le_mul (show t1 ≤ 5000 by omega) (show cz ≤ 5000000000 by omega) (by omega) (by decide)) (by decide)⟩
    have hw : IntKind.i64.wrap (t1 * cz) = t1 * cz := IntWalk.i64_in _ (by omega)
    have hx : Hid (chR 3 (s, t1, t2) us (u1, u2, u3, u4) = ((t1 * cz : Int) : Rat) / ((sz : Int) : Rat) * ((t2 : Rat) / (((nv : Int)) : Rat))) := Lib.hid (by rw [← hsz.out, ← hcz.out, ← hnv.out, ← hcl.out]; rfl)
    have hb1 := Lib.hid (show 0 ≤ t1 * cz ∧ t1 * cz ≤ 100000000000000 ∧ 0 < sz ∧ sz ≤ 100000000000000 by omega)
    have hb2 := Lib.hid (show 0 ≤ t2 ∧ t2 ≤ 100000000000000 ∧ 0 < (nv : Int) ∧ (nv : Int) ≤ 100000000000000 by omega)
    have hMb : Hid (100000000000000 * 100000000000000 ≤ M ∧ 100000000000000 * 100000000000000 ≤ M ∧ 100000000000000 ≤ M ∧ 100000000000000 ≤ M) := Lib.hid ⟨Nat.le_trans hNB.out.1 hNB.out.2, Nat.le_trans hNB.out.1 hNB.out.2, hM.out.le (by decide), hM.out.le (by decide)⟩
    have hNn : Hid (100000000000000 * 100000000000000 ≤ NB ∧ 100000000000000 * 100000000000000 ≤ NB) := Lib.hid ⟨hNB.out.1, hNB.out.1⟩
    have hnv5 : nv ≤ 5000 := by omega
    have SL6 := Lib.hid (SL.out.mono L5.out)
    clear hst hst2 hz1 hz2 hz3 hmu hszb hus hlo hhi hu3 hcu hok2
    go_upto_region 8 with (go_at_call 93; (with_reducible refine (Rcluster_any HX6.out.inv.fz SL6.out hn hl u3).mono ?_); rintro e w7 ⟨a7, c7, φ7, rfl, hi7, s7⟩; rw [hcl.out] at s7 ⊢; rw [hnv.out]; have HX7 := Lib.hid (HX6.out.call hi7); have S7 := Lib.hid s7; have L7 := Lib.hid (L5.out.trans hi7.le); clear hi7 s7 y0 y1 y2 y3)
    have HR7 : Hid (RcN w φ (w.heap.size + 1 + 1) φ7 w7.drew) := Lib.hid (HX7.out.drewN 1)
    have hcf := Lib.hid (fun (ψ : Phi) (W : World) (hl : φ7.le ψ) (h : Hid (RcN w φ (w.heap.size + 1 + 1) ψ W)) => (⟨(hfc.out ψ W (L7.out.trans hl) h.out.inv.fz).1, (hfc.out ψ W (L7.out.trans hl) h.out.inv.fz).2.1⟩ : W.cell? ⟨w.heap.size, 1, none⟩ = some (.int .i64 t1) ∧ W.cell? ⟨w.heap.size, 2, none⟩ = some (.int .i64 t2)))
    obtain ⟨x1, x2⟩ := hcf.out φ7 w7.drew φ7.le_refl HR7
    have LR : Hid (φ7.le φ7) := Lib.hid φ7.le_refl
    have hSTA := RcN.sta w φ (w.heap.size + 1 + 1)
    go_region_held3 (fun W => W.cell? ⟨w.heap.size, 1, none⟩ = some (.int .i64 t1) ∧ W.cell? ⟨w.heap.size, 2, none⟩ = some (.int .i64 t2)) (first | with_reducible exact ⟨x1, x2⟩ | with_reducible exact ⟨by assumption, by assumption⟩ | (obtain ⟨m0, m1⟩ := hcf.out _ _ LZ.out HZ; with_reducible exact ⟨keep3 m0 (show w.heap.size + 1 + 1 ≠ w.heap.size by omega), keep3 m1 (show w.heap.size + 1 + 1 ≠ w.heap.size by omega)⟩) | fail) (first
      | (go_at_call 91; (first
          | ((with_reducible refine (Rsizes_any HR7.out.fz S7.out hnv hnv5).mono ?_); rintro e wA ⟨aA, cA, φA, rfl, hiA, sA⟩; rw [hys.out] at sA ⊢; rw [hE2.out.len]; have HA : Hid (RcN w φ (w.heap.size + 1 + 1) φA wA) := Lib.hid (hSTA.call HR7.out hiA); have SA := Lib.hid sA; have LA := Lib.hid hiA.le)
          | ((with_reducible refine (Rsizes_any H2.out.fz (S7.out.mono L2.out) hnv hnv5).mono ?_); rintro e wA ⟨aA, cA, φA, rfl, hiA, sA⟩; rw [hys.out] at sA ⊢; rw [hE2.out.len]; have HA : Hid (RcN w φ (w.heap.size + 1 + 1) φA wA) := Lib.hid (hSTA.call H2.out hiA); have SA := Lib.hid sA; have LA := Lib.hid (L2.out.trans hiA.le); have L2A := Lib.hid hiA.le)); obtain ⟨q1, q2⟩ := hcf.out φA wA LA.out HA; clear hiA sA)
      | (go_at_call 90; (first
          | ((with_reducible refine (total_q HA.out.fz SA.out hE2).mono ?_); rintro e wT ⟨rfl, hwT⟩; have HT : Hid (RcN w φ (w.heap.size + 1 + 1) φA wT) := Lib.hid (by rw [hwT]; exact HA.out); obtain ⟨q3, q4⟩ := hcf.out φA wT LA.out HT)
          | ((with_reducible refine (total_q H2.out.fz (SA.out.mono LA2.out) hE2).mono ?_); rintro e wT ⟨rfl, hwT⟩; have HT : Hid (RcN w φ (w.heap.size + 1 + 1) φC wT) := Lib.hid (by rw [hwT]; exact H2.out); obtain ⟨q3, q4⟩ := hcf.out φC wT L2.out HT)); clear hwT)
      | (go_at_call 92; (first
          | ((with_reducible refine (RPart_Q hSTA hb1.out HT).mono ?_); rintro e wB ⟨gB, pB, kB, cB, pB', kB', cB', φB, rfl, HB, LB0, V1⟩; (first | (have LB : Hid (φ7.le φB) := Lib.hid (LA.out.trans LB0.out); (try have L2B : Hid (φC.le φB) := Lib.hid (L2A.out.trans LB0.out))) | (have LB : Hid (φ7.le φB) := Lib.hid (L2.out.trans LB0.out); have L2B : Hid (φC.le φB) := LB0)); obtain ⟨q5, q6⟩ := hcf.out φB wB LB.out HB)
          | ((with_reducible refine (RPart_Q hSTA hb1.out H2).mono ?_); rintro e wB ⟨gB, pB, kB, cB, pB', kB', cB', φB, rfl, HB, LB0, V1⟩; have LB : Hid (φ7.le φB) := Lib.hid (L2.out.trans LB0.out); have L2B : Hid (φC.le φB) := LB0; obtain ⟨q5, q6⟩ := hcf.out φB wB LB.out HB)
          | ((with_reducible refine (RPart_Q hSTA hb2.out HR7).mono ?_); rintro e wC ⟨gC, pC, kC, cC, pC', kC', cC', φC, rfl, H2, L2, V2⟩; obtain ⟨q7, q8⟩ := hcf.out φC wC L2.out H2)
          | ((with_reducible refine (RPart_Q hSTA hb2.out HA).mono ?_); rintro e wC ⟨gC, pC, kC, cC, pC', kC', cC', φC, rfl, H2, LA2, V2⟩; have L2 : Hid (φ7.le φC) := Lib.hid (LA.out.trans LA2.out); obtain ⟨q7, q8⟩ := hcf.out φC wC L2.out H2)
          | ((with_reducible refine (RPart_Q hSTA hb2.out HT).mono ?_); rintro e wC ⟨gC, pC, kC, cC, pC', kC', cC', φC, rfl, H2, LA2, V2⟩; have L2 : Hid (φ7.le φC) := Lib.hid (LA.out.trans LA2.out); obtain ⟨q7, q8⟩ := hcf.out φC wC L2.out H2)
          | ((with_reducible refine (RPart_Q hSTA hb2.out HB).mono ?_); rintro e wC ⟨gC, pC, kC, cC, pC', kC', cC', φC, rfl, H2, LB2, V2⟩; have L2 : Hid (φ7.le φC) := Lib.hid (LB.out.trans LB2.out); obtain ⟨q7, q8⟩ := hcf.out φC wC L2.out H2)))
      | (go_at_call 45; (first
          | ((with_reducible refine (RTimes_C hSTA hRD hM.out.b V1 (Lib.hid (Phi.le_refl _)) V2 L2B hMb hNn HB).mono ?_); rintro e wZ ⟨g, p1, k1, c1, p2, k2, c2, φZ, rfl, HZ, LZ0, VZ⟩; have LZ : Hid (φ7.le φZ) := Lib.hid (LB.out.trans LZ0.out))
          | ((with_reducible refine (RTimes_C hSTA hRD hM.out.b V1 LB2 V2 (Lib.hid (Phi.le_refl _)) hMb hNn H2).mono ?_); rintro e wZ ⟨g, p1, k1, c1, p2, k2, c2, φZ, rfl, HZ, LZ0, VZ⟩; have LZ : Hid (φ7.le φZ) := Lib.hid (L2.out.trans LZ0.out))); have HZr : Hid (RsSt w φ φZ (w.heap.size + 1 + 1) #[.bool false, .slice none 0 0, .slice none 0 0] 55 wZ) := HZ; have r0 : wZ.cell? ⟨w.heap.size + 1 + 1, 0, none⟩ = some (.bool false) := HZr.out.k.cell 0; have r1 : wZ.cell? ⟨w.heap.size + 1 + 1, 1, none⟩ = some (.slice none 0 0) := HZr.out.k.cell 1; have r2 : wZ.cell? ⟨w.heap.size + 1 + 1, 2, none⟩ = some (.slice none 0 0) := HZr.out.k.cell 2; have r3 := HZr.out.k.frz 0; have r4 := HZr.out.k.frz 1; have r5 := HZr.out.k.frz 2; obtain ⟨q9, q10⟩ := hcf.out φZ wZ LZ.out HZ)
      | fail)
    all_goals
      go_wp2
      have hZ := Lib.hid (((HZr.out.set 0 (.bool g)).set 1 (.slice p1 k1 c1)).set 2 (.slice p2 k2 c2))
      have e0 : _ = some (Value.bool g) := hZ.out.k.cell 0
      have e1 : _ = some (Value.slice p1 k1 c1) := hZ.out.k.cell 1
      have e2 : _ = some (Value.slice p2 k2 c2) := hZ.out.k.cell 2
      (try simp only [Exit.inBlock, Exit.then])
      refine bodyPost_ret (v := .agg #[.bool g, .slice p1 k1 c1, .slice p2 k2 c2]) (by simp [results, Tryz.results32, go_sem, e0, e1, e2]) rfl ?_
      exact ⟨_, φZ, rfl, hZ.out.inv, by rw [hx.out]; exact VZ.out⟩
end Go.Proofs.YtnlhalnjbkpdnaaGreatDoor

namespace Go.Proofs.YtnlhalnjbkpdnaaGreatDoor
open Go.RowKit Go.Sort
set_option linter.unusedVariables false
set_option linter.unusedSimpArgs false
/-- A slice of the call's own, what is frozen, and perhaps a cell for a ratio. -/
structure S8 (w2 : World) (φ2 : Phi) (ao : Option Addr) (co : Nat) (xs : List Rti) (ψ : Phi) (o : Option Nat) (W : World) : Prop where
  own : OwSt w2 φ2 33 ao co xs W
  fz : Fz ψ W
  o : ∀ x, o = some x → Blk W x #[.string ⟨#[]⟩, .string ⟨#[]⟩] 33 ∧ (∀ y, ao = some y → y.block ≠ x) ∧ w2.heap.size ≤ x ∧ φ2 x = none ∧ ψ x = none
section
variable {w2 W w' : World} {φ2 ψ ψ' : Phi} {ao : Option Addr} {co : Nat} {xs : List Rti} {o : Option Nat}
theorem S8.call (h : S8 w2 φ2 ao co xs ψ o W) (hi : Inv W.heap.size W ψ ψ' w') : S8 w2 φ2 ao co xs ψ' o w' :=
  ⟨h.own.callB hi.bel, hi.fz, fun x hx => by
    obtain ⟨h1, h2, h3, h4, h5⟩ := h.o x hx
    exact ⟨h1.callB hi.bel, h2, h3, h4, (hi.new x h1.lt).trans h5⟩⟩
theorem S8.callB (h : S8 w2 φ2 ao co xs ψ o W) (hb : Below W.heap.size W w') : S8 w2 φ2 ao co xs ψ o w' := h.call ((Inv.start h.fz).callB hb)
theorem S8.al (h : Hid (S8 w2 φ2 ao co xs ψ none W)) : Hid (S8 w2 φ2 ao co xs ψ (some W.heap.size) (W.alloc (.cells #[.string ⟨#[]⟩, .string ⟨#[]⟩] 33))) :=
  Lib.hid ⟨h.out.own.callB ((Below.refl _ _).alloc (Nat.le_refl _) _), h.out.fz.alloc _, fun x hx => by
    cases hx
    exact ⟨Blk.new _ _ _, fun y hy e => by have := (h.out.own.own.lt y hy).2; omega, h.out.own.inv.size, h.out.own.inv.fz.new_none (Nat.le_refl _), h.out.fz.new_none (Nat.le_refl _)⟩⟩
theorem S8.alD (h : Hid (S8 w2 φ2 ao co xs ψ none W)) : Hid (S8 w2 φ2 ao co xs ψ (some W.heap.size) (W.alloc (.cells #[.string ⟨#[]⟩, .string ⟨#[]⟩] 33)).drew) := Lib.hid ((S8.al h).out.callB (bdrewN (Below.refl _ _) 1))
theorem S8.put {x : Nat} (h : Hid (S8 w2 φ2 ao co xs ψ (some x) W)) (u v : Value) : OwSt w2 φ2 33 ao co xs ((W.setCell ⟨x, 0, none⟩ u).setCell ⟨x, 1, none⟩ v) ∧ Blk ((W.setCell ⟨x, 0, none⟩ u).setCell ⟨x, 1, none⟩ v) x #[u, v] 33 := by
  obtain ⟨h1, h2, h3, h4, h5⟩ := h.out.o x rfl
  exact ⟨(h.out.own.set h3 h4 h2 u).set h3 h4 h2 v, (h1.set 0 u).set 1 v⟩
theorem S8.putNew (h : Hid (S8 w2 φ2 ao co xs ψ none W)) (u v : Value) : OwSt w2 φ2 33 ao co xs (W.alloc (.cells #[u, v] 33)) ∧ Blk (W.alloc (.cells #[u, v] 33)) W.heap.size #[u, v] 33 :=
  ⟨h.out.own.callB ((Below.refl _ _).alloc (Nat.le_refl _) _), Blk.new _ _ _⟩
theorem S8.fzput {x : Nat} (h : Hid (S8 w2 φ2 ao co xs ψ (some x) W)) (u v : Value) : Fz ψ ((W.setCell ⟨x, 0, none⟩ u).setCell ⟨x, 1, none⟩ v) := by
  obtain ⟨h1, h2, h3, h4, h5⟩ := h.out.o x rfl
  intro b ob hb
  have hne : b ≠ x := by intro e; subst e; rw [h5] at hb; cases hb
  exact (Below.heap_setCell _ ⟨x, 1, none⟩ v b (fun e => hne e)).trans ((Below.heap_setCell W ⟨x, 0, none⟩ u b (fun e => hne e)).trans (h.out.fz b ob hb))
theorem S8.facts {x : Nat} (h : Hid (S8 w2 φ2 ao co xs ψ (some x) W)) : W.cell? ⟨x, 0, none⟩ = some (.string ⟨#[]⟩) ∧ W.cell? ⟨x, 1, none⟩ = some (.string ⟨#[]⟩) ∧ W.frozen? ⟨x, 0, none⟩ = false ∧ W.frozen? ⟨x, 1, none⟩ = false := by
  have k := (h.out.o x rfl).1
  exact ⟨k.cell 0, k.cell 1, k.frz 0, k.frz 1⟩
end
theorem ch_fine {kind : Int} (hk : kind = 1 ∨ kind = 2 ∨ kind = 3) {s : ByteArray} {t1 t2 : Int} {us : List Unt} (hl : us.length ≤ 5000) (hok : ∀ u ∈ us, 1 ≤ u.2.2.2 ∧ u.2.2.2 ≤ 1000000) (ht : TkOk kind (s, t1, t2) us) {u : Unt} (hu : u ∈ us) : QuF (chR kind (s, t1, t2) us u) := by
  have hlo := ht.lo
  have hhi := ht.hi
  have hszb := szU_bd hok
  have hus := hok u hu
  have hn0 : 0 < us.length := List.length_pos_of_mem hu
  dsimp only at hlo hhi
  unfold chR
  rcases hk with rfl | rfl | rfl
  · rw [if_pos rfl]; exact QuF.of (by omega) (by dsimp only; omega) (by omega)
  · have hmu : 0 ≤ t1 * u.2.2.2 ∧ t1 * u.2.2.2 ≤ 5000000000 := ⟨Int.mul_nonneg hlo (by omega), Int.le_trans (Int.mul_le_mul (show t1 ≤ 5000 by omega) hus.2 (by omega) (by decide)) (by decide)⟩
    rw [if_neg (by decide), if_pos rfl]
    exact QuF.of (by omega) (by dsimp only; omega) (by omega)
  · have hcu : u ∈ clU us u.2.2.1 := List.mem_filter.2 ⟨hu, by simp⟩
    have hz1 := szU_bd (l := clU us u.2.2.1) (fun v hv => hok v (clU_mem hv))
    have hz2 := clU_len us u.2.2.1
    have hz3 := List.length_pos_of_mem hcu
    have hst := (ht.st rfl).2 _ (mem_cnsL.2 ⟨u, hu, rfl⟩)
    have hst0 := (ht.st rfl).1
    dsimp only at hst hst0
    have hmu : 0 ≤ t1 * szU (clU us u.2.2.1) ∧ t1 * szU (clU us u.2.2.1) ≤ 25000000000000 := ⟨Int.mul_nonneg hlo (by omega), Int.le_trans (Int.mul_le_mul (show t1 ≤ 5000 by omega) (show szU (clU us u.2.2.1) ≤ 5000000000 by omega) (by omega) (by decide)) (by decide)⟩
    rw [if_neg (by decide), if_neg (by decide)]
    exact ⟨_, _, (Qu.of (A := 100000000000000) (B := 100000000000000) (by omega) (by dsimp only; omega) (by omega)).mul (Qu.of (A := 100000000000000) (B := 100000000000000) (by omega) (by dsimp only; omega) (by omega)), by decide, by decide⟩
theorem MOk.nb {M : Nat} (h : MOk M) : ∃ NB, Hid (100000000000000 * 100000000000000 ≤ NB ∧ NB ≤ M) :=
  ⟨100000000000000 * 100000000000000, Lib.hid ⟨Nat.le_refl _, Nat.le_trans (show 100000000000000 * 100000000000000 ≤ p10 2000 from Nat.le_trans (show 100000000000000 * 100000000000000 ≤ 10 ^ 28 by decide) (p10_mono (by decide))) h.one⟩⟩
end Go.Proofs.YtnlhalnjbkpdnaaGreatDoor

namespace Go.Proofs.YtnlhalnjbkpdnaaGreatDoor
open Go.RowKit Go.Sort
set_option linter.unusedVariables false
set_option linter.unusedSimpArgs false
section
variable {M : Nat} {w1 W : World} {φ1 φ3 ψ : Phi} {ao : Option Addr} {co : Nat} {xs : List Rti} {o : Option Nat}
theorem take_8 (h : Hid (S8 w1 φ1 ao co xs ψ o W)) (hl : Hid (φ3.le ψ)) {kind : Int} {aT : Option Addr} {cT nT : Nat} {ts : List Tak} (st : Hid (SlV φ3 aT cT ts)) (hnT : Hid (ts.length = nT)) {z : ByteArray} {s : ByteArray} {t1 t2 : Int} (hz : Hid (tkOf ts z = (s, t1, t2))) :
    Calls Tryz.prog 33 #[.agg #[.int .i64 kind, .slice aT nT cT], .string z] W (fun e w' => e = .returned (.agg #[.string s, .int .i64 t1, .int .i64 t2]) ∧ Hid (S8 w1 φ1 ao co xs ψ o w')) :=
  (Rtake_any h.out.fz (st.out.mono hl.out) hnT hz).mono fun e w' q => ⟨q.1, Lib.hid (h.out.callB q.2)⟩
theorem of_8 (h : Hid (S8 w1 φ1 ao co xs ψ o W)) (hl : Hid (φ3.le ψ)) {a : Option Addr} {c n : Nat} {l : List Unt} (sl : Hid (SlV φ3 a c l)) (hn : Hid (l.length = n)) (hln : n ≤ 5000) {z : ByteArray} {us : List Unt} {nu : Nat} (hus : Hid (stU l z = us)) (hnu : Hid (us.length = nu)) :
    Calls Tryz.prog 34 #[.slice a n c, .string z] W (fun e w' => ∃ a4 c4 ψ', e = .returned (.slice a4 nu c4) ∧ Hid (S8 w1 φ1 ao co xs ψ' o w') ∧ Hid (φ3.le ψ') ∧ Hid (SlV ψ' a4 c4 us)) :=
  (Rof_any h.out.fz (sl.out.mono hl.out) hn hln z).mono fun e w' q => by
    obtain ⟨a4, c4, ψ', rfl, hi, s4⟩ := q
    rw [hus.out] at s4 ⊢
    rw [hnu.out]
    exact ⟨a4, c4, ψ', rfl, Lib.hid (h.out.call hi), Lib.hid (hl.out.trans hi.le), Lib.hid s4⟩
theorem chance_8 (hM : Hid (MOk M)) (hRD : Hid (RdivOk M)) (h : Hid (S8 w1 φ1 ao co xs ψ o W)) (hl : Hid (φ3.le ψ)) {kind : Int} (hk : Hid (kind = 1 ∨ kind = 2 ∨ kind = 3)) {s : ByteArray} {t1 t2 : Int} {a : Option Addr} {c n : Nat} {us : List Unt} (sl : Hid (SlV ψ a c us)) (hn : Hid (us.length = n)) (hln : n ≤ 5000) (hok : Hid (∀ u ∈ us, 1 ≤ u.2.2.2 ∧ u.2.2.2 ≤ 1000000)) (ht : Hid (TkOk kind (s, t1, t2) us))
    {u1 : Int} {u2 : ByteArray} {u3 u4 : Int} (hu : Hid ((u1, u2, u3, u4) ∈ us)) {NB : Nat} (hNB : Hid (100000000000000 * 100000000000000 ≤ NB ∧ NB ≤ M)) :
    Calls Tryz.prog 32 #[.int .i64 kind, .agg #[.string s, .int .i64 t1, .int .i64 t2], .slice a n c, .agg #[.int .i64 u1, .string u2, .int .i64 u3, .int .i64 u4]] W (fun e w' => ∃ v ψ', e = .returned v ∧ Hid (S8 w1 φ1 ao co xs ψ' o w') ∧ Hid (φ3.le ψ') ∧ Hid (FrX ψ' v (chR kind (s, t1, t2) us (u1, u2, u3, u4)) NB NB)) :=
  (Rchance_any hM hRD hk.out h.out.fz sl.out hn hln hok ht hu hNB).mono fun e w' q => by
    obtain ⟨v, ψ', rfl, hi, hv⟩ := q
    exact ⟨v, ψ', rfl, Lib.hid (h.out.call hi), Lib.hid (hl.out.trans hi.le), Lib.hid hv⟩
theorem ratio_8 (hM : Hid (MOk M)) (hRD : Hid (RdivOk M)) (h : Hid (S8 w1 φ1 ao co xs ψ o W)) (hl : Hid (φ3.le ψ)) (hp : Hid (PowP φ3)) {v : Value} {x : Rat} {NB : Nat} (hv : Hid (FrX ψ v x NB NB)) (hNB : Hid (100000000000000 * 100000000000000 ≤ NB ∧ NB ≤ M)) {S T : ByteArray} {F : Int} (hR : Hid (ratR x = (S, T, F))) :
    Calls Tryz.prog 35 #[v] W (fun e w' => e = .returned (.tuple #[.agg #[.string S, .string T], .int .i64 F]) ∧ Hid (S8 w1 φ1 ao co xs ψ o w')) :=
  (RRatio_any hRD hM.out.b h.out.fz (hp.out.mono hl.out) hv.out hNB.out.2 hNB.out.2 hR).mono fun e w' q => ⟨q.1, Lib.hid (h.out.callB q.2)⟩
end
set_option maxRecDepth 100000 in
set_option maxHeartbeats 8000000 in
theorem RChances_any {M : Nat} (hM : Hid (MOk M)) (hRD : Hid (RdivOk M)) {w : World} {kind : Int} {aT : Option Addr} {cT nT : Nat} {ts : List Tak} {a : Option Addr} {c n : Nat} {l : List Unt} {φ : Phi} (hφ : Fz φ w) (hb_ : TabP φ) (hp : PowP φ) (st : SlV φ aT cT ts) (hnT : Hid (ts.length = nT)) (hmT : nT ≤ 9223372036854775807) (sl : SlV φ a c l) (hn : Hid (l.length = n)) (hm : n ≤ 9223372036854775807) (hs : Hid (∀ u ∈ l, u.2.1.size ≤ reachBytes)) :
    Calls Tryz.prog 8 #[.agg #[.int .i64 kind, .slice aT nT cT], .slice a n c] w (SlPost (chsR kind ts l) φ w) := by
  obtain ⟨φ1, hle1, hi1, hb1⟩ := (Inv.start hφ).frz (.cells #[.int .i64 kind, .slice aT nT cT] 24)
  have hI0 := Lib.hid hi1
  have HB1 := Lib.hid hb1
  have L1 := Lib.hid hle1
  have SL := Lib.hid (sl.mono hle1)
  have ST := Lib.hid (st.mono hle1)
  have HT := Lib.hid (hb_.mono hle1)
  have HP := Lib.hid (hp.mono hle1)
  obtain ⟨q, hq⟩ : ∃ q, Hid (dsgF kind ts l = q) := ⟨_, Lib.hid rfl⟩
  have hbx := Lib.hid (fun (W : World) (hf : Fz φ1 W) => (⟨box_cell HB1.out φ1.le_refl hf 0, box_cell HB1.out φ1.le_refl hf 1⟩ : W.cell? ⟨w.heap.size, 0, none⟩ = some (.int .i64 kind) ∧ W.cell? ⟨w.heap.size, 1, none⟩ = some (.slice aT nT cT)))
  clear hi1 hb1 hle1 hφ st sl hp hb_
  by_cases hq0 : q = 0
  case neg =>
    have g0 : ((q : Int) != 0) = true := by simp [hq0]
    have hR : Hid (chsR kind ts l = ([], q)) := Lib.hid (by unfold chsR; rw [hq.out, if_pos hq0])
    clear hq0
    go_enter Tryz.func8, Tryz.ntmps8
    go_wp2_with (go_at_call 10; (with_reducible refine (RCheckDesign_any hI0.out.fz HT.out ST.out hnT hmT SL.out hn hm hs hq).mono ?_); rintro e w1 ⟨rfl, hb1⟩; have hI1 := Lib.hid (hI0.out.callB hb1); clear hb1)
    go_ret2
    exact ⟨none, 0, φ1, by rw [hR.out]; rfl, hI1.out, by rw [hR.out]; exact SlV.empty _⟩
  subst hq0
  have hD := Lib.hid (ds_ok hq.out)
  have hok := Lib.hid (frm_ok hD.out.frm)
  have hl : n ≤ 5000 := by have := hok.out.1; rw [hn.out] at this; exact this
  have hR : Hid (chsR kind ts l = (l.map (fun u => shtT (chR kind (tkOf ts u.2.1) (stU l u.2.1) u)), 0)) := Lib.hid (by unfold chsR; rw [hq.out, if_neg (by simp)])
  have hk3 := Lib.hid hD.out.kd
  obtain ⟨NB, hNB⟩ := hM.out.nb
  go_enter Tryz.func8, Tryz.ntmps8
  go_wp2_with (go_at_call 10; (with_reducible refine (RCheckDesign_any hI0.out.fz HT.out ST.out hnT hmT SL.out hn hm hs hq).mono ?_); rintro e w1 ⟨rfl, hb1⟩; have hI1 := Lib.hid (hI0.out.callB hb1); clear hb1)
  have hS0 : Hid (OwSt w1 φ1 33 none 0 ([] : List Rti) w1) := Lib.hid ⟨Inv.start hI1.out.fz, Own.nil _ _ _ _⟩
  go_loopw [7, 20] (fun o i wr => ∃ (k : Nat) (ao : Option Addr) (co : Nat) (xs : List Rti), k ≤ n ∧ i = .int .i64 k ∧ o = .slice ao xs.length co ∧ Hid ((l.take k).map (fun u => shtT (chR kind (tkOf ts u.2.1) (stU l u.2.1) u)) = xs) ∧ Hid (OwSt w1 φ1 33 ao co xs wr)) (fun _ i _ => n - (intOf i).toNat)
  case atStart => exact ⟨0, none, 0, [], Nat.zero_le _, rfl, rfl, Lib.hid rfl, hS0⟩
  case round =>
    clear hS0
    obtain ⟨k, ao, co, xs, hk, rfl, rfl, hxs, hS⟩ := hrel
    have hxl : xs.length ≤ 5000 := by rw [← hxs.out, List.length_map, List.length_take]; omega
    by_cases hlt : k < n
    · obtain ⟨b, off, rfl, f⟩ := SL.out.untD hn hlt
      obtain ⟨hb, c1, c2, c3, c4⟩ := f k hlt wr hS.out.inv.fz
      have htk := Lib.hid (take_snocD unt0 l k n hn.out hlt)
      have hmu : l.getD k unt0 ∈ l := by rw [getD_elem0 _ _ _ (by rw [hn.out]; exact hlt)]; exact List.getElem_mem _
      have hnx : Hid ((l.take (k + 1)).map (fun u => shtT (chR kind (tkOf ts u.2.1) (stU l u.2.1) u)) = xs ++ [shtT (chR kind (tkOf ts (l.getD k unt0).2.1) (stU l (l.getD k unt0).2.1) (l.getD k unt0))]) := Lib.hid (by rw [htk.out, List.map_append, hxs.out]; rfl)
      clear f htk
      generalize l.getD k unt0 = U at *
      obtain ⟨u1, u2, u3, u4⟩ := U
      dsimp only at c1 c2 c3 c4 hnx
      have htk := hD.out.tak u2 (mem_nmsL.2 ⟨_, hmu, rfl⟩)
      obtain ⟨⟨s, t1, t2⟩, hT0⟩ : ∃ t : Tak, Hid (tkOf ts u2 = t) := ⟨_, Lib.hid rfl⟩
      obtain ⟨us, hus⟩ : ∃ us, Hid (stU l u2 = us) := ⟨_, Lib.hid rfl⟩
      rw [hus.out, hT0.out] at htk hnx
      have hu : Hid ((u1, u2, u3, u4) ∈ us) := Lib.hid (by rw [← hus.out]; exact List.mem_filter.2 ⟨hmu, by simp⟩)
      obtain ⟨nu, hnu⟩ : ∃ nu, Hid (us.length = nu) := ⟨_, Lib.hid rfl⟩
      have hul : nu ≤ 5000 := by rw [← hnu.out, ← hus.out]; exact Nat.le_trans (stU_len l u2) (by rw [hn.out]; exact hl)
      have hoku : Hid (∀ u ∈ us, 1 ≤ u.2.2.2 ∧ u.2.2.2 ≤ 1000000) := Lib.hid (fun u hu => by rw [← hus.out] at hu; exact (hok.out.2.2 u (stU_mem hu)).2.2)
      have HTK := Lib.hid htk
      obtain ⟨⟨S, T⟩, hr⟩ : ∃ r : Rti, Hid (shtT (chR kind (s, t1, t2) us (u1, u2, u3, u4)) = r) := ⟨_, Lib.hid rfl⟩
      have hRR := Lib.hid ((ch_fine hk3.out (by rw [hnu.out]; exact hul) hoku.out htk hu.out).sht hr.out).1
      rw [hr.out] at hnx
      clear htk hmu
      obtain ⟨φ3, hle3, hi3, hb3⟩ := (Inv.start hS.out.inv.fz).frz (.cells #[.int .i64 u1, .string u2, .int .i64 u3, .int .i64 u4] 64)
      have HB3 := Lib.hid hb3
      have L3 := Lib.hid hle3
      have HF3 := Lib.hid hi3.fz
      have SL3 := Lib.hid (SL.out.mono hle3)
      have ST3 := Lib.hid (ST.out.mono hle3)
      have HP3 := Lib.hid (HP.out.mono hle3)
      have hS2 := Lib.hid (OwSt.alloc hS.out (.cells #[.int .i64 u1, .string u2, .int .i64 u3, .int .i64 u4] 64))
      have hfc := Lib.hid (fun (ψ : Phi) (W : World) (hl : Hid (φ3.le ψ)) (hf : Fz ψ W) => (⟨(hbx.out W (hf.sub (L3.out.trans hl.out))).1, (hbx.out W (hf.sub (L3.out.trans hl.out))).2, box_cell HB3.out hl.out hf 0, box_cell HB3.out hl.out hf 1, box_cell HB3.out hl.out hf 2, box_cell HB3.out hl.out hf 3⟩ : W.cell? ⟨w.heap.size, 0, none⟩ = some (.int .i64 kind) ∧ W.cell? ⟨w.heap.size, 1, none⟩ = some (.slice aT nT cT) ∧ W.cell? ⟨wr.heap.size, 0, none⟩ = some (.int .i64 u1) ∧ W.cell? ⟨wr.heap.size, 1, none⟩ = some (.string u2) ∧ W.cell? ⟨wr.heap.size, 2, none⟩ = some (.int .i64 u3) ∧ W.cell? ⟨wr.heap.size, 3, none⟩ = some (.int .i64 u4)))
      clear hle3 hi3 hb3 HB3
      go_upto_region 8 with (fail)
      clear c1 c2 c3 c4 hb hS
      generalize wr.alloc (.cells #[.int .i64 u1, .string u2, .int .i64 u3, .int .i64 u4] 64) = wj at *
      generalize wr.heap.size = bj at *
      have HS0 : Hid (S8 w1 φ1 ao co xs φ3 none wj) := Lib.hid ⟨hS2.out, HF3.out, fun x hx => by cases hx⟩
      have HSd : Hid (S8 w1 φ1 ao co xs φ3 none wj.drew) := Lib.hid (HS0.out.callB (bdrewN (Below.refl _ wj) 1))
      clear hS2
      obtain ⟨y0, y1, y2, y3, y4, y5⟩ := hfc.out φ3 wj.drew (Lib.hid φ3.le_refl) HSd.out.fz
      have HFa : Fz φ3 (wj.alloc (.cells #[.string ⟨#[]⟩, .string ⟨#[]⟩] 33)).drew := (S8.alD HS0).out.fz
      have LR : Hid (φ3.le φ3) := Lib.hid φ3.le_refl
      apply wp_region_cutV (fun (i : Nat × Option Addr × Nat × Value) => [(25, .pointer (some ⟨w.heap.size, 0, none⟩)), (26, .int .i64 kind), (27, .agg #[.int .i64 kind, .slice aT nT cT]), (28, .pointer (some ⟨bj, 1, none⟩)), (29, .string u2), (30, .agg #[.string s, .int .i64 t1, .int .i64 t2]), (31, .slice (some ⟨b, off, none⟩) n c), (32, .pointer (some ⟨bj, 1, none⟩)), (33, .string u2), (34, .slice i.2.1 nu i.2.2.1), (35, .agg #[.int .i64 u1, .string u2, .int .i64 u3, .int .i64 u4]), (36, i.2.2.2), (37, .tuple #[.agg #[.string S, .string T], .int .i64 0]), (24, .tuple #[.agg #[.string S, .string T], .int .i64 0]), (38, .agg #[.string S, .string T]), (39, .int .i64 0), (10, .pointer (some ⟨i.1, 0, none⟩)), (11, .int .i64 0)])
        (fun i W => OwSt w1 φ1 33 ao co xs W ∧ Blk W i.1 #[.string S, .string T] 33)
      case h1 =>
        intro KK hKK
        go_region_held3 (fun W => W.cell? ⟨w.heap.size, 0, none⟩ = some (.int .i64 kind) ∧ W.cell? ⟨w.heap.size, 1, none⟩ = some (.slice aT nT cT) ∧ W.cell? ⟨bj, 0, none⟩ = some (.int .i64 u1) ∧ W.cell? ⟨bj, 1, none⟩ = some (.string u2) ∧ W.cell? ⟨bj, 2, none⟩ = some (.int .i64 u3) ∧ W.cell? ⟨bj, 3, none⟩ = some (.int .i64 u4)) (first | with_reducible exact ⟨y0, y1, y2, y3, y4, y5⟩ | with_reducible exact hfc.out φ3 _ LR HFa | with_reducible exact ⟨by assumption, by assumption, by assumption, by assumption, by assumption, by assumption⟩ | with_reducible exact ⟨keepAP (by with_reducible assumption), keepAP (by with_reducible assumption), keepAP (by with_reducible assumption), keepAP (by with_reducible assumption), keepAP (by with_reducible assumption), keepAP (by with_reducible assumption)⟩ | (with_reducible exact hfc.out _ _ LE5 (S8.fzput HS9 _ _)) | fail) (first
          | (go_at_call 33; (with_reducible refine (take_8 (by first | with_reducible assumption | with_reducible exact S8.al (by with_reducible assumption) | with_reducible exact S8.alD HS0) (by with_reducible assumption) ST3 hnT hT0).mono ?_); rintro e w5 ⟨rfl, HS5⟩; obtain ⟨z0, z1, z2, z3, z4, z5⟩ := hfc.out _ w5 (by with_reducible assumption) HS5.out.fz; (try (obtain ⟨f0, f1, f2, f3⟩ := S8.facts HS5)))
          | (go_at_call 34; (with_reducible refine (of_8 (by first | with_reducible assumption | with_reducible exact S8.al (by with_reducible assumption) | with_reducible exact S8.alD HS0) (by with_reducible assumption) SL3 hn hl hus hnu).mono ?_); rintro e w6 ⟨a4, c4, φ4, rfl, HS6, LE4, S4⟩; obtain ⟨z0, z1, z2, z3, z4, z5⟩ := hfc.out _ w6 LE4 HS6.out.fz; (try (obtain ⟨f0, f1, f2, f3⟩ := S8.facts HS6)))
          | (go_at_call 32; (with_reducible refine (chance_8 hM hRD (by first | with_reducible assumption | with_reducible exact S8.al (by with_reducible assumption) | with_reducible exact S8.alD HS0) LE4 hk3 S4 hnu hul hoku HTK hu hNB).mono ?_); rintro e w7 ⟨v, φ5, rfl, HS7, LE5, V5⟩; obtain ⟨z0, z1, z2, z3, z4, z5⟩ := hfc.out _ w7 LE5 HS7.out.fz; (try (obtain ⟨f0, f1, f2, f3⟩ := S8.facts HS7)))
          | (go_at_call 35; (with_reducible refine (ratio_8 hM hRD (by first | with_reducible assumption | with_reducible exact S8.al (by with_reducible assumption) | with_reducible exact S8.alD HS0) LE5 HP3 V5 hNB hRR).mono ?_); rintro e w9 ⟨rfl, HS9⟩; obtain ⟨z0, z1, z2, z3, z4, z5⟩ := hfc.out _ w9 LE5 HS9.out.fz; (try (obtain ⟨f0, f1, f2, f3⟩ := S8.facts HS9)))
          | fail)
        all_goals
          refine onlyN_mk ?_
          have hk := fun x a4 c4 v W s => hKK.out (x, a4, c4, v) W s
          simp only [updA, List.foldl_cons, List.foldl_nil, List.setIfInBounds_toArray, List.set_cons_succ, List.set_cons_zero] at hk
          first
            | exact hk _ _ _ _ _ (S8.put HS9 _ _)
            | exact hk _ _ _ _ _ (S8.putNew HS9 _ _)
      case h2 =>
      rintro ⟨b10, a4, c4, v⟩ W9 ⟨hO, hK⟩
      simp only [updA, List.foldl_cons, List.foldl_nil, List.setIfInBounds_toArray, List.set_cons_succ, List.set_cons_zero]
      clear y0 y1 y2 y3 y4 y5
      have y0 : W9.cell? ⟨b10, 0, none⟩ = some (.string S) := hK.cell 0
      have y1 : W9.cell? ⟨b10, 1, none⟩ = some (.string T) := hK.cell 1
      have hin := hO.inv
      have hon := hO.own
      go_wp2_with (at_builtin; refine wpList_app1 (α := Rti) rfl _ _ 26 rfl slRti hin ao co _ hon _ _ (S, T) (rep_rti _ S T) rfl 1 rfl (by omega) ?_; intro a7 c7 w7 hi7 ho7 hg7)
      have hS7 : Hid (OwSt w1 φ1 33 a7 c7 (xs ++ [(S, T)]) w7) := Lib.hid ⟨hi7, ho7⟩
      clear hi7 ho7 hg7 hin hon
      go_roundw
      case rel => exact ⟨k + 1, a7, c7, xs ++ [(S, T)], by omega, by go_num, by simp, hnx, hS7⟩
      case measure => (simp [intOf] <;> omega)
    · obtain rfl : n = k := by omega
      have ex : l.take n = l := by rw [← hn.out, List.take_length]
      rw [ex] at hxs
      go_wp2
      go_ret2
      obtain ⟨φ', hle, hi, hsl, _⟩ := hS.out.own.release hS.out.inv
      exact ⟨ao, co, φ', by rw [hR.out, hxs.out]; rfl, hI1.out.call hi, by rw [hR.out, hxs.out]; exact hsl⟩
end Go.Proofs.YtnlhalnjbkpdnaaGreatDoor
