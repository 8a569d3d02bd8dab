/- The plain law: behind Post each cell has its total; the walk of cell. The law WeightPostMeetsTotals. Conditions: the library's tables of blanks and of powers of ten read as they were laid. Conditions: none beyond what the claim form gives. -/
import Derived.Test.YtmlpjffnmkndoaaGreatDoorUA
import Derived.Test.YtmlpjffnmkndoaaGreatDoorJY
import Derived.Test.YtmlpjffnmkndoaaGreatDoorJE
import Derived.Deep.RegionHeldLaw
namespace Go.Proofs.YtmlpjffnmkndoaaGreatDoor
open Go.RowKit
set_option linter.unusedVariables false
set_option linter.unusedSimpArgs false
theorem shtR_none {xs : List Rat} {L : List Rti} {F : Int} (h : shtR xs = (L, F)) (hF : F ≠ 0) : L = [] := by
  unfold shtR at h
  split at h
  · obtain ⟨_, h2⟩ := Prod.mk.inj h; exact absurd h2.symm hF
  · obtain ⟨h1, _⟩ := Prod.mk.inj h; exact h1.symm
theorem ratB_le {n d : ByteArray} (h : RatOk n d) : dV (bodyB n).data.toList ≤ p10 2000 ∧ dV d.data.toList ≤ p10 2000 := by
  have h1 : ∀ {s : Nat}, s ≤ 2000 → 10 ^ s ≤ p10 2000 := fun h => p10_mono h
  exact ⟨Nat.le_trans (Nat.le_of_lt h.num_lt) (h1 h.s1), Nat.le_trans (Nat.le_of_lt h.den_lt) (h1 h.s2)⟩
theorem p10_pos {k : Nat} : 1 ≤ p10 k := Nat.pow_pos (by decide)
theorem pstR_none {m : List Mgn} {l : List Psn} {mi : Int} {L : List Rti} {F : Int} (h : pstR m l mi = (L, F)) (hF : F ≠ 0) : L = [] := by
  unfold pstR at h
  split at h
  · injection h with h1 _; exact h1.symm
  · split at h
    · injection h with h1 _; exact h1.symm
    · split at h
      · injection h with h1 _; exact h1.symm
      · exact shtR_none h hF
theorem pstR_good {m : List Mgn} {l : List Psn} {mi : Int} {L : List Rti} {nm n : Nat} (hm : m.length = nm) (hn : l.length = n) (h : pstR m l mi = (L, 0)) : ppmF m l = 0 ∧ ∃ i : Nat, mi = (i : Int) ∧ i < nm ∧ nobB (fun c => celQ (wgtQ l) l i (c : Int) n = 0) (m.getD i mgn0).2 (m.getD i mgn0).2.length = false ∧ shtR (fitL id (wsL l n) l i (m.getD i mgn0).2 n n) = (L, 0) := by
  subst hm hn
  unfold pstR at h
  split at h
  · next hne => injection h with _ h2; exact absurd h2 hne
  · next h1 =>
    split at h
    · injection h with _ h2; exact absurd h2 (by decide)
    · next h2 =>
      split at h
      · injection h with _ h3; exact absurd h3 (by decide)
      · next h3 =>
        obtain ⟨i, rfl, hi⟩ := outB_in (mi := mi) (nm := m.length) (by simpa using h2)
        rw [Int.toNat_natCast] at h h3
        exact ⟨by simpa using h1, i, rfl, hi, by simpa using h3, h⟩
theorem celQ_scale {w v : Nat → Rat} {l : List Psn} {mi n : Nat} {c : Int} {q : Rat} (h : ∀ j, j < n → celI l mi j = c → v j = w j * q) : ∀ k, k ≤ n → celQ v l mi c k = celQ w l mi c k * q := by
  intro k
  induction k with
  | zero => intro _; show (0 : Rat) = 0 * q; grind
  | succ k ih =>
    intro hk
    have h1 := ih (by omega)
    by_cases e : celI l mi k = c
    · rw [celQ_yes e, celQ_yes e, h1, h k (by omega) e]; grind
    · rw [celQ_no e, celQ_no e, h1]
/-- Behind the fitting to a margin each cell has its total. -/
theorem fit_total {l : List Psn} {i n nt c : Nat} {T : List Rti} {v : Nat → Rat} (hc : c < nt) (hw : ∀ j, j < n → 0 < wgtQ l j) (hb : nobB (fun c => celQ (wgtQ l) l i (c : Int) n = 0) T nt = false) (hv : ∀ j, j < n → v j = (fitL id (wsL l n) l i T n n).getD j 0) : celQ v l i (c : Int) n = ttQ T c := by
  have hweq : ∀ c : Int, celQ (fun j => (wsL l n).getD j 0) l i c n = celQ (wgtQ l) l i c n := fun c => celQ_congr (n := n) (fun j hj => wsL_get hj) _ (Nat.le_refl _)
  by_cases h0 : celQ (wgtQ l) l i (c : Int) n = 0
  · rw [nobB_all hb c hc h0, celQ_none n ((celQ_zero hw).1 h0)]
  · rw [celQ_scale (w := wgtQ l) (q := ttQ T c / celQ (wgtQ l) l i (c : Int) n) (n := n) (fun j hj e => ?_) n (Nat.le_refl _)]
    · rw [Rat.div_def, Rat.mul_comm (ttQ T c), ← Rat.mul_assoc, Rat.mul_inv_cancel _ h0, Rat.one_mul]
    · rw [hv j hj]
      have : (fitL id (wsL l n) l i T n n).getD j 0 = fitX id (wsL l n) l i T n j := by simp [fitL, hj]
      rw [this]
      unfold fitX
      rw [e, hweq, if_neg h0, Int.toNat_natCast, wsL_get hj, Rat.div_def, Rat.div_def, Rat.mul_assoc]; rfl
theorem SmS.sta (E : TypeId) (w0 : World) (φ0 : Phi) (b c : Nat) (cs : Array Value) : Sta (fun φ W => SmS E w0 φ0 φ b c cs W) := ⟨fun h => h.s.inv.fz, fun h hi => h.call hi⟩
set_option maxRecDepth 100000 in
set_option maxHeartbeats 4000000 in
theorem cell_any {M : Nat} (hD : Hid (RdivOk M)) (hM : LenB M) {B : Nat} (hB1 : 1 ≤ B) {n : Nat} (hM1 : n * B * B ^ n ≤ M) (hM2 : B ^ n ≤ M) {mi : Nat} {al : Option Addr} {cl : Nat} {l : List Psn} {aw : Option Addr} {cw : Nat} {L : List Rti} {w : World} {φ : Phi} (hφ : Fz φ w) (sl : SlV φ al cl l) (hn : Hid (l.length = n)) (sw : SlV φ aw cw L) (hw : Hid (L.length = n)) (hn3 : n ≤ 3000) (hmi : mi ≤ 8) {nt : Nat} (hnt : nt ≤ 40) (hc : Hid (∀ j, j < n → mi < (l.getD j psn0).2.1.length ∧ ∃ c : Nat, c < nt ∧ celI l mi j = (c : Int))) (hLk : Hid (∀ k, k < n → RatOk (L.getD k rti0).1 (L.getD k rti0).2)) (hLb : Hid (∀ k, k < n → dV (bodyB (L.getD k rti0).1).data.toList ≤ B ∧ dV (L.getD k rti0).2.data.toList ≤ B)) {v : Nat → Rat} (hv : Hid (∀ k, k < n → ratX (L.getD k rti0).1 (L.getD k rti0).2 = v k)) {c : Nat} (hc40 : c ≤ 40) :
    Calls Tryz.prog 10 #[.slice al n cl, .slice aw n cw, .int .i64 (mi : Int), .int .i64 (c : Int)] w (FrXP (celQ v l mi (c : Int) n) (n * B * B ^ n) (B ^ n) φ w) := by
  have hbd : Hid (∀ k, k < n → (k * B * B ^ k * B + B * B ^ k ≤ M ∧ B ^ k * B ≤ M) ∧ (k * B * B ^ k * B + B * B ^ k ≤ (k + 1) * B * B ^ (k + 1) ∧ B ^ k * B ≤ B ^ (k + 1)) ∧ k * B * B ^ k ≤ (k + 1) * B * B ^ (k + 1) ∧ B ^ k ≤ B ^ (k + 1)) := Lib.hid (fun k hk =>
    ⟨⟨Nat.le_trans (sumB_step hB1) (Nat.le_trans (sumB_mono hB1 hk) hM1), by rw [← Nat.pow_succ]; exact Nat.le_trans (powB_mono hB1 hk) hM2⟩, ⟨sumB_step hB1, Nat.le_of_eq (Nat.pow_succ ..).symm⟩, sumB_mono hB1 (Nat.le_succ k), powB_mono hB1 (Nat.le_succ k)⟩)
  have h00 : Hid ((0 : Nat) * B * B ^ 0 = 0 ∧ B ^ 0 = 1) := Lib.hid ⟨by simp, by simp⟩
  have HSL := Lib.hid sl
  have HSW := Lib.hid sw
  have hC0 := Lib.hid (fun (ψ : Phi) W (hf : Fz ψ W) => RWhole_any (n := 0) (by decide) (by decide) hf)
  rw [show ((0 : Int) : Rat) = 0 from rfl, show (0 : Int).natAbs = 0 from rfl] at hC0
  have hRS := Lib.hid (RsSt.start (Inv.start hφ) #[.bool false, .slice none 0 0, .slice none 0 0] 36)
  clear hφ sl sw hM1 hM2
  go_enter Tryz.func10, Tryz.ntmps10
  go_upto_region 1 with fail
  generalize w.alloc (.cells #[.bool false, .slice none 0 0, .slice none 0 0] 36) = wx at *
  obtain ⟨b2, hb2⟩ : ∃ b, w.heap.size = b := ⟨_, rfl⟩
  rw [hb2] at hRS ⊢
  have HB2 := Lib.hid hb2
  clear hb2
  go_upto_region 2 with (go_at_call 37; (with_reducible refine (hC0.out φ _ hRS.out.inv.fz).mono ?_); rintro e w4 ⟨v4, φ4, rfl, hi4, hv4⟩; obtain ⟨g4, n4, m4, k4, k5, a4, c4, a5, c5, rfl, _⟩ := hv4.open; have hR4 := hRS.out.call hi4; have hS4 := Lib.hid (SmS.mk (hR4.callB ((Below.refl _ _).alloc (Nat.le_refl _) (.cells #[.bool g4, .slice a4 k4 c4, .slice a5 k5 c5] 36))) (RsSt.start hR4.inv #[.bool g4, .slice a4 k4 c4, .slice a5 k5 c5] 36) (by have := hR4.k.lt; omega)); have HV4 := Lib.hid hv4; have L4 := Lib.hid hi4.le; clear hi4 hv4 hR4)
  generalize w4.alloc (.cells #[.bool g4, .slice a4 k4 c4, .slice a5 k5 c5] 36) = wb at *
  generalize w4.heap.size = b3 at *
  clear hRS hC0
  go_wp2
  go_loopw [15] (fun iv wr => ∃ (k : Nat) (φ' : Phi) (g : Bool) (a1 : Option Addr) (k1 c1 : Nat) (a2 : Option Addr) (k2 c2 : Nat), k ≤ n ∧ iv = .int .i64 (k : Int) ∧ Hid (SmS 36 w φ φ' b2 b3 #[.bool g, .slice a1 k1 c1, .slice a2 k2 c2] wr) ∧ Hid (FrX φ' (.agg #[.bool g, .slice a1 k1 c1, .slice a2 k2 c2]) (celQ v l mi (c : Int) k) (k * B * B ^ k) (B ^ k))) (fun iv _ => n - (intOf iv).toNat)
  case atStart => exact ⟨0, φ4, g4, a4, k4, c4, a5, k5, c5, Nat.zero_le _, rfl, hS4, Lib.hid (by rw [h00.out.1, h00.out.2]; exact HV4.out)⟩
  case round =>
    clear hS4 HV4
    obtain ⟨j, φ', g1, a1, k1, c1, a2, k2, c2, hj, rfl, hS, hV⟩ := hrel
    by_cases hjl : j < n
    · have hjli : (j : Int) < (n : Int) := by omega
      obtain ⟨b, off, rfl, fp⟩ := HSL.out.psnsD hn hjl
      obtain ⟨ac, cc, sc, f2⟩ := fp j hjl
      obtain ⟨d0, d1, d2, d3, d4, d5⟩ := f2 wr (hS.out.s.inv.fz.sub hS.out.s.inv.le)
      obtain ⟨hml', ct, hct, hce⟩ := hc.out j hjl
      have hce2 : Hid (celI l mi j = (ct : Int)) := Lib.hid hce
      unfold celI at hce
      generalize l.getD j psn0 = p at *
      obtain ⟨⟨s1, t1⟩, cs, x, y, z⟩ := p
      dsimp only at d0 d1 d2 d3 d4 d5 sc hce hml'
      obtain ⟨mc, hmc⟩ : ∃ m, cs.length = m := ⟨_, rfl⟩
      rw [hmc] at d2 hml'
      have hcn := Lib.hid hmc
      have hmcc : mc ≤ 9223372036854775807 := by have h1 := sc.capn; have h2 := sc.capm; rw [hmc] at h1; unfold maxLen at h2; omega
      obtain ⟨bc, oc, rfl, fc⟩ := sc.intsD hcn hml'
      have FC := Lib.hid (fc mi hml')
      rw [hce] at FC
      obtain ⟨φp, lp, ip, ep⟩ := (Inv.start hS.out.s.inv.fz).frz (.cells #[.string s1, .string t1, .slice (some ⟨bc, oc, none⟩) mc cc, .int .i64 x, .int .i64 y, .int .i64 z] 76)
      have hS1 := Lib.hid (hS.out.call ip)
      have LP := Lib.hid lp
      have EP := Lib.hid ep
      have hmii : (mi : Int) < (mc : Int) := by omega
      have d9 : (wr.alloc (.cells #[.string s1, .string t1, .slice (some ⟨bc, oc, none⟩) mc cc, .int .i64 x, .int .i64 y, .int .i64 z] 76)).cell? ⟨bc, oc + mi, none⟩ = some (.int .i64 (ct : Int)) := (FC.out _ (hS1.out.s.inv.fz.sub hS1.out.s.inv.le)).2
      have HV1 := Lib.hid (hV.out.mono lp)
      obtain ⟨⟨q1, q2⟩, ⟨q3, q4⟩, q5, q6⟩ := hbd.out j hjl
      have MA1 := Lib.hid (And.intro q1 q2)
      have MA2 := Lib.hid (And.intro q3 q4)
      have MO := Lib.hid (And.intro q5 q6)
      clear fp f2 hmc fc ip ep lp hS hce hV q1 q2 q3 q4 q5 q6
      go_upto_region 5 with fail
      generalize wr.alloc (.cells #[.string s1, .string t1, .slice (some ⟨bc, oc, none⟩) mc cc, .int .i64 x, .int .i64 y, .int .i64 z] 76) = wz at *
      generalize wr.heap.size = b5 at *
      clear d0 d1 d2 d3 d4 d5
      have x2 : wz.cell? ⟨b5, 2, none⟩ = some (.slice (some ⟨bc, oc, none⟩) mc cc) := box_cell EP.out φp.le_refl hS1.out.s.inv.fz 2
      by_cases hcc : ct = c
      · subst hcc
        obtain ⟨bL, oL, rfl, fl⟩ := HSW.out.rtisD hw hjl
        have FLJ := Lib.hid (fl j hjl)
        have HOK := Lib.hid (hLk.out j hjl)
        have HN1 := Lib.hid (hLb.out j hjl)
        have HX1 := Lib.hid (hv.out j hjl)
        generalize (L.getD j rti0).1 = sj at *
        generalize (L.getD j rti0).2 = tj at *
        have PQ := Lib.hid (celQ_yes (w := v) hce2.out)
        clear fl
        go_upto_region 6 with fail
        clear x2 d9
        have hP1 := SmS.sta 36 w φ b2 b3 #[.bool g1, .slice a1 k1 c1, .slice a2 k2 c2]
        have SDd : Hid (SmS 36 w φ φp b2 b3 #[.bool g1, .slice a1 k1 c1, .slice a2 k2 c2] wz.drew) := Lib.hid (hS1.out.callB (bdrewN (Below.refl _ wz) 1))
        have hcf := Lib.hid (fun (ψ : Phi) (W : World) (hs : Hid (SmS 36 w φ ψ b2 b3 #[.bool g1, .slice a1 k1 c1, .slice a2 k2 c2] W)) => (⟨(FLJ.out W (hs.out.s.inv.fz.sub hs.out.s.inv.le)).1, (FLJ.out W (hs.out.s.inv.fz.sub hs.out.s.inv.le)).2, hs.out.s.k.cell 0, hs.out.s.k.cell 1, hs.out.s.k.cell 2⟩ : W.cell? ⟨bL, oL + j * 2, none⟩ = some (.string sj) ∧ W.cell? ⟨bL, oL + j * 2 + 1, none⟩ = some (.string tj) ∧ W.cell? ⟨b3, 0, none⟩ = some (.bool g1) ∧ W.cell? ⟨b3, 1, none⟩ = some (.slice a1 k1 c1) ∧ W.cell? ⟨b3, 2, none⟩ = some (.slice a2 k2 c2)))
        obtain ⟨y0, y1', y2, y3, y4⟩ := hcf.out φp wz hS1
        obtain ⟨x0, x1', x2, x3, x4⟩ := hcf.out φp wz.drew SDd
        apply wp_region_cutV (fun (i : Value × Bool × Option Addr × Nat × Nat × Option Addr × Nat × Nat) => [(27, .agg #[.bool g1, .slice a1 k1 c1, .slice a2 k2 c2]), (28, .slice (some ⟨bL, oL, none⟩) n cw), (29, .int .i64 (j : Int)), (30, .pointer (some ⟨bL, oL + j * 2, none⟩)), (31, .agg #[.string sj, .string tj]), (32, i.1), (33, .agg #[.bool i.2.1, .slice i.2.2.1 i.2.2.2.1 i.2.2.2.2.1, .slice i.2.2.2.2.2.1 i.2.2.2.2.2.2.1 i.2.2.2.2.2.2.2])])
          (fun i W => Hid (∃ φD, φp.le φD ∧ SmS 36 w φ φD b2 b3 #[.bool i.2.1, .slice i.2.2.1 i.2.2.2.1 i.2.2.2.2.1, .slice i.2.2.2.2.2.1 i.2.2.2.2.2.2.1 i.2.2.2.2.2.2.2] W ∧ FrX φD (.agg #[.bool i.2.1, .slice i.2.2.1 i.2.2.2.1 i.2.2.2.2.1, .slice i.2.2.2.2.2.1 i.2.2.2.2.2.2.1 i.2.2.2.2.2.2.2]) (celQ v l mi (ct : Int) j + v j) ((j + 1) * B * B ^ (j + 1)) (B ^ (j + 1))))
        case h1 =>
          intro KK hKK
          go_region_law (first
            | (go_simp; go_at_call 38; (with_reducible refine (RPlus_P hP1 hD hM HV1 LA VA MA1 MA2 SA).mono ?_); rintro e wB ⟨gB, aB, kB, cB, aB', kB', cB', φB, rfl, SB, LB, VB⟩; have rf0 := SB.out.s.k.frz 0; have rf1 := SB.out.s.k.frz 1; have rf2 := SB.out.s.k.frz 2; obtain ⟨o0, o1, o2, o3, o4⟩ := hcf.out φB wB SB)
            | (go_simp; go_at_call 12; (with_reducible refine (RFracOf_P hP1 HOK HX1 HN1 SDd).mono ?_); rintro e wA ⟨gA, aA, kA, cA, aA', kA', cA', φA, rfl, SA, LA, VA⟩; obtain ⟨n0, n1, n2, n3, n4⟩ := hcf.out φA wA SA)
            | fail)
          all_goals
            refine onlyN_mk ?_
            have hk9 := fun W s => hKK.out (.agg #[.bool gA, .slice aA kA cA, .slice aA' kA' cA'], gB, aB, kB, cB, aB', kB', cB') W s
            simp only [updA, List.foldl_cons, List.foldl_nil, List.setIfInBounds_toArray, List.set_cons_succ, List.set_cons_zero] at hk9
            exact hk9 _ (Lib.hid ⟨φB, LA.out.trans LB.out, ((SB.out.set 0 _).set 1 _).set 2 _, VB.out⟩)
        case h2 =>
          rintro ⟨vA, g5, a5, k5, c5, a6, k6, c6⟩ wE hE
          simp only [updA, List.foldl_cons, List.foldl_nil, List.setIfInBounds_toArray, List.set_cons_succ, List.set_cons_zero]
          obtain ⟨φD, hlD, hSD, hVD⟩ := hE.out
          have SE := Lib.hid hSD
          have PA : Hid (FrX φD (.agg #[.bool g5, .slice a5 k5 c5, .slice a6 k6 c6]) (celQ v l mi (ct : Int) (j + 1)) ((j + 1) * B * B ^ (j + 1)) (B ^ (j + 1))) := Lib.hid (by rw [PQ.out]; exact hVD)
          clear hE hlD hSD hVD x0 x1' x2 x3 x4 y0 y1' y2 y3 y4 hcf hP1 SDd hS1 HV1
          go_wp2
          go_roundw
          case rel => exact ⟨j + 1, φD, g5, a5, k5, c5, a6, k6, c6, by omega, by go_num, SE, PA⟩
          case measure => (simp [intOf] <;> omega)
      · have hcj : ((ct : Int) == (c : Int)) = false := by simp; omega
        have PA : Hid (FrX φp (.agg #[.bool g1, .slice a1 k1 c1, .slice a2 k2 c2]) (celQ v l mi (c : Int) (j + 1)) ((j + 1) * B * B ^ (j + 1)) (B ^ (j + 1))) := Lib.hid (by rw [celQ_no (by rw [hce2.out]; omega)]; exact HV1.out.le MO.out.1 MO.out.2)
        clear hcc
        go_wp2
        go_roundw
        case rel => exact ⟨j + 1, φp, g1, a1, k1, c1, a2, k2, c2, by omega, by go_num, hS1, PA⟩
        case measure => (simp [intOf] <;> omega)
    · obtain rfl : j = n := by omega
      have z0 : wr.cell? ⟨b3, 0, none⟩ = some (.bool g1) := hS.out.s.k.cell 0
      have z1 : wr.cell? ⟨b3, 1, none⟩ = some (.slice a1 k1 c1) := hS.out.s.k.cell 1
      have z2 : wr.cell? ⟨b3, 2, none⟩ = some (.slice a2 k2 c2) := hS.out.s.k.cell 2
      obtain ⟨y0, y1, y2, y3, y4, y5⟩ := hS.out.r.facts
      go_wp2
      have hIZ := Lib.hid (((hS.out.r.inv.setCell hS.out.r.l hS.out.r.f (off := 0) (Value.bool g1)).setCell hS.out.r.l hS.out.r.f (off := 1) (Value.slice a1 k1 c1)).setCell hS.out.r.l hS.out.r.f (off := 2) (Value.slice a2 k2 c2))
      have hBZ := Lib.hid (((hS.out.r.k.set 0 (Value.bool g1)).set 1 (Value.slice a1 k1 c1)).set 2 (Value.slice a2 k2 c2))
      have e0 : _ = some (Value.bool g1) := hBZ.out.cell 0
      have e1 : _ = some (Value.slice a1 k1 c1) := hBZ.out.cell 1
      have e2 : _ = some (Value.slice a2 k2 c2) := hBZ.out.cell 2
      (try simp only [Exit.inBlock, Exit.then])
      refine bodyPost_ret (v := .agg #[(Value.bool g1), (Value.slice a1 k1 c1), (Value.slice a2 k2 c2)]) (by simp [results, Tryz.results10, go_sem, e0, e1, e2]) rfl ?_
      exact ⟨_, φ', rfl, hIZ.out, hV.out⟩
section
variable {P : Phi → World → Prop} {φ : Phi} {W : World} {M : Nat}
theorem cell_P (hP : Sta P) (hD : Hid (RdivOk M)) (hM : LenB M) {B : Nat} (hB1 : 1 ≤ B) {n : Nat} (hM1 : Hid (n * B * B ^ n ≤ M ∧ B ^ n ≤ M)) {mi : Nat} {al : Option Addr} {cl : Nat} {l : List Psn} {aw : Option Addr} {cw : Nat} {L : List Rti} {ψ : Phi} (hl : Hid (ψ.le φ)) (sl : Hid (SlV ψ al cl l)) (hn : Hid (l.length = n)) (sw : Hid (SlV ψ aw cw L)) (hw : Hid (L.length = n)) (hn3 : n ≤ 3000) (hmi : mi ≤ 8) {nt : Nat} (hnt : nt ≤ 40) (hc : Hid (∀ j, j < n → mi < (l.getD j psn0).2.1.length ∧ ∃ c : Nat, c < nt ∧ celI l mi j = (c : Int))) (hLk : Hid (∀ k, k < n → RatOk (L.getD k rti0).1 (L.getD k rti0).2)) (hLb : Hid (∀ k, k < n → dV (bodyB (L.getD k rti0).1).data.toList ≤ B ∧ dV (L.getD k rti0).2.data.toList ≤ B)) {v : Nat → Rat} (hv : Hid (∀ k, k < n → ratX (L.getD k rti0).1 (L.getD k rti0).2 = v k)) {c : Nat} (hc40 : c ≤ 40) {x : Rat} (hx : Hid (celQ v l mi (c : Int) n = x)) (hS : Hid (P φ W)) :
    Calls Tryz.prog 10 #[.slice al n cl, .slice aw n cw, .int .i64 (mi : Int), .int .i64 (c : Int)] W (FrS P φ x (n * B * B ^ n) (B ^ n)) :=
  (cell_any hD hM hB1 hM1.out.1 hM1.out.2 (hP.fz hS.out) (sl.out.mono hl.out) hn (sw.out.mono hl.out) hw hn3 hmi hnt hc hLk hLb hv hc40).mono (fun en w' hp => by rw [hx.out] at hp; exact FrS.of hP (Nat.le_refl _) (Nat.le_refl _) hS hp)
end
end Go.Proofs.YtmlpjffnmkndoaaGreatDoor

namespace Go.Proofs.YtmlpjffnmkndoaaGreatDoor
open Go.RowKit
set_option linter.unusedVariables false
set_option linter.unusedSimpArgs false
/-- The bounds that the sums of written weights want. -/
structure CeB (M B n N : Nat) : Prop where
  c1 : n * B * B ^ n ≤ M
  c2 : B ^ n ≤ M
  c3 : n * B * B ^ n * N + N * B ^ n ≤ M
  c4 : B ^ n * N ≤ M
theorem ceB_ten {M K n N B k : Nat} (hN : Hid (N = 1000000000000)) (hBk : Hid (B ≤ 10 ^ k)) (hK : Hid (10 ^ K ≤ M)) {m : Nat} (hn : n ≤ m) (hm : m ≤ 10000) (hK2 : 30 + k + k * m ≤ K) : CeB M B n N := by
  have h1 : N ≤ 10 ^ 12 := by rw [hN.out]; decide
  have h0 : n ≤ 10 ^ 4 := by have : (10 : Nat) ^ 4 = 10000 := by decide
                             omega
  have h3 := ten_pow hBk.out hn
  have h5 := ten_mul (ten_mul h0 hBk.out) h3
  have fin : ∀ {a i : Nat}, a ≤ 10 ^ i → i ≤ K → a ≤ M := fun h hi => Nat.le_trans (ten_le h hi) hK.out
  have h6 := ten_mul h5 h1
  have h7 := ten_mul h1 h3
  refine ⟨fin h5 (by omega), fin h3 (by omega), ?_, fin (ten_mul h3 h1) (by omega)⟩
  have h8 := Nat.add_le_add (ten_le h6 (j := 29 + k + k * m) (by omega)) (ten_le h7 (j := 29 + k + k * m) (by omega))
  refine Nat.le_trans h8 (Nat.le_trans ?_ hK.out)
  refine Nat.le_trans ?_ (Nat.pow_le_pow_right (by decide) (by omega : 29 + k + k * m + 1 ≤ K))
  rw [Nat.pow_succ]
  omega
theorem ceB_p {K n N k m : Nat} (hN : Hid (N = 1000000000000)) (hn : n ≤ m) (hm : m ≤ 10000) (hK2 : 30 + k + k * m ≤ K) : CeB (p10 K) (p10 k) n N := ceB_ten (K := K) (k := k) hN (Lib.hid (Nat.le_refl _)) (Lib.hid (Nat.le_refl _)) hn hm hK2
set_option maxRecDepth 100000 in
set_option maxHeartbeats 4000000 in
theorem meets_core {M : Nat} (hM : LenB M) (hD : Hid (DivOk M)) (hRD : Hid (RdivOk M)) (hM2 : p10 2000 ≤ M) {N : Nat} (hN : Hid (N = 1000000000000)) {mm : List Mgn} {nm cm : Nat} {am : Option Addr} {n : Nat} (hB : Hid (n ≤ 3000 → FtB M N N n N)) {B : Nat} (hBe : Hid (p10 2000 = B)) (hCB : Hid (n ≤ 3000 → CeB M B n N)) {a : Option Addr} {cap : Nat} {l : List Psn} {mi : Int} (hmi : IsI64 mi) {w : World} {φ : Phi} (hφ : Fz φ w) (hp : PowP φ) (sm : SlV φ am cm mm) (hnm : Hid (mm.length = nm)) (hgm : Hid (∀ x ∈ mm, MgnG x)) (sl : SlV φ a cap l) (hn : Hid (l.length = n)) (hsz : Hid (∀ p ∈ l, PsnG p)) :
    Calls Tryz.prog 3 #[.slice am nm cm, .slice a n cap, .int .i64 mi] w (fun e w' => e = .returned (.bool true) ∧ Below w.heap.size w w') := by
  obtain ⟨L, hL⟩ : ∃ L, (pstR mm l mi).1 = L := ⟨_, rfl⟩
  obtain ⟨F, hF⟩ : ∃ F, (pstR mm l mi).2 = F := ⟨_, rfl⟩
  have hR : Hid (pstR mm l mi = (L, F)) := Lib.hid (by rw [← hL, ← hF])
  have HI := Lib.hid (Inv.start hφ)
  have HS := Lib.hid sl
  have HM := Lib.hid sm
  have HP := Lib.hid hp
  have HM2 := Lib.hid hM2
  have hmi2 : -9223372036854775808 ≤ mi ∧ mi ≤ 9223372036854775807 := hmi
  have hnl : n ≤ 9223372036854775807 := by have := sl.capn; have := sl.capm; rw [hn.out] at *; unfold maxLen at *; omega
  have hnml : nm ≤ 9223372036854775807 := by have := sm.capn; have := sm.capm; rw [hnm.out] at *; unfold maxLen at *; omega
  clear hL hF hφ hp sl sm hM2 hmi
  by_cases hF0 : F = 0
  case neg =>
    have hL0 := pstR_none hR.out hF0
    subst hL0
    have h0i : (F == 0) = false := by simp [hF0]
    have h0j : (F != 0) = true := by simp [hF0]
    have hl0 : Hid ((([] : List Rti), F).1.length = 0) := Lib.hid rfl
    clear hF0
    go_enter Tryz.func3, Tryz.ntmps3
    go_wp2_with (go_at_call 8; (with_reducible refine (Post_any hD hM HM2.out hN hB HI.out.fz HP.out HM.out hnm hgm HS.out hn hsz hmi2 hR).mono ?_); rintro e w1 ⟨a1, c1, φ1, rfl, hi1, s1⟩; rw [hl0.out]; have I1 := Lib.hid (HI.out.call hi1); clear hi1 s1)
    go_ret
    exact ⟨rfl, I1.out.bel⟩
  case pos =>
  subst hF0
  obtain ⟨hf, i, rfl, hi, hnb, hsh⟩ := pstR_good hnm.out hn.out hR.out
  obtain ⟨q1, q2, q3, q4, q5⟩ := ppmF_cells hnm.out hn.out hf
  have hnm8 := q1
  have hn3 := q2
  obtain ⟨nt, hnt9⟩ : ∃ x, Hid ((mm.getD i mgn0).2.length = x) := ⟨_, Lib.hid rfl⟩
  have hnt40 : nt ≤ 40 := by rw [← hnt9.out]; exact q4 i hi
  have hcel := Lib.hid (q5 i hi)
  rw [hnt9.out] at hcel hnb
  obtain ⟨e1, e2⟩ := shtR_back hsh
  rw [fitL_len] at e1 e2
  have hLl : Hid (L.length = n) := Lib.hid e1
  have hLr : Hid (∀ k, k < n → ratF (L.getD k rti0).1 (L.getD k rti0).2 = 0) := Lib.hid (fun k hk => (e2 k hk).1)
  have hLk : Hid (∀ k, k < n → RatOk (L.getD k rti0).1 (L.getD k rti0).2) := Lib.hid (fun k hk => ratF_ok (e2 k hk).1)
  have hLb : Hid (∀ k, k < n → dV (bodyB (L.getD k rti0).1).data.toList ≤ B ∧ dV (L.getD k rti0).2.data.toList ≤ B) := Lib.hid (fun k hk => by rw [← hBe.out]; exact ratB_le (hLk.out k hk))
  obtain ⟨v, hv9⟩ : ∃ v : Nat → Rat, v = fun k => (fitL id (wsL l n) l i (mm.getD i mgn0).2 n n).getD k 0 := ⟨_, rfl⟩
  have hv : Hid (∀ k, k < n → ratX (L.getD k rti0).1 (L.getD k rti0).2 = v k) := Lib.hid (fun k hk => by rw [hv9]; exact (e2 k hk).2)
  have htot := Lib.hid (fun c (hc : c < nt) => fit_total (c := c) hc (ppmF_pos hn.out hf) hnb (v := v) (fun j hj => by rw [hv9]))
  have hT : Hid (∀ r ∈ (mm.getD i mgn0).2, shoF r.1 r.2 = 0) := Lib.hid (fun r hr => (ppmF_tot hnm.out hf i hi r hr).1)
  obtain ⟨bm, om, rfl, fm⟩ := HM.out.mgnsD hnm hi
  obtain ⟨ar, cr, sr, f1⟩ := fm i hi
  rw [hnt9.out] at f1
  obtain ⟨T, hTT⟩ : ∃ T, (mm.getD i mgn0).2 = T := ⟨_, rfl⟩
  rw [hTT] at hnt9 hT sr htot
  have SR := Lib.hid sr
  have F1 := Lib.hid (fun W (hf : Fz φ W) => (f1 W hf).2)
  have hB1 : 1 ≤ B := by rw [← hBe.out]; exact p10_pos
  obtain ⟨k1, k2, k3, k4⟩ := hCB.out hn3
  have hM1 := Lib.hid (And.intro k1 k2)
  have HBO := Lib.hid (And.intro k3 k4)
  have hmni : (i : Int) < (nm : Int) := by omega
  have hlx : Hid ((L, (0 : Int)).1.length = n) := hLl
  have hnn : ((n : Int) != (n : Int)) = false := by simp
  clear q1 q2 q3 q4 q5 e1 e2 hv9 hnb hsh hTT fm f1 sr k1 k2 k3 k4 hCB hf
  go_enter Tryz.func3, Tryz.ntmps3
  go_upto_region 6 with (first
    | (go_at_call 9; (with_reducible refine (sound_any hM HM2.out I1.out.fz HP1.out S1.out hLl hLr).mono ?_); rintro e w2 ⟨rfl, hb2⟩; have I2 := Lib.hid (I1.out.callB hb2); clear hb2)
    | (go_at_call 8; (with_reducible refine (Post_any hD hM HM2.out hN hB HI.out.fz HP.out HM.out hnm hgm HS.out hn hsz hmi2 hR).mono ?_); rintro e w1 ⟨aL, cL, φ1, rfl, hi1, s1⟩; rw [hlx.out]; have I1 := Lib.hid (HI.out.call hi1); have S1 := Lib.hid s1; have L1 := Lib.hid hi1.le; have HP1 := Lib.hid (HP.out.mono hi1.le); clear hi1 s1))
  have d1 := F1.out w2 (I2.out.fz.sub I2.out.le)
  have HS1 := Lib.hid (HS.out.mono L1.out)
  clear hR
  go_wp2
  go_loopw [39] (fun iv wr => ∃ (k : Nat) (φ3 : Phi), k ≤ nt ∧ iv = .int .i64 (k : Int) ∧ Hid (φ1.le φ3) ∧ Hid (Inv w.heap.size w φ φ3 wr)) (fun iv _ => nt - (intOf iv).toNat)
  case atStart => exact ⟨0, φ1, Nat.zero_le _, rfl, Lib.hid φ1.le_refl, I2⟩
  case round =>
    clear d1 I1 I2
    obtain ⟨k, φ3, hk, rfl, hle, hS⟩ := hrel
    by_cases hlt : k < nt
    · have hlti : (k : Int) < (nt : Int) := by omega
      obtain ⟨bt, ot, rfl, ft⟩ := SR.out.rtisD hnt9 hlt
      obtain ⟨e0, e1⟩ := ft k hlt wr (hS.out.fz.sub hS.out.le)
      have hm : T.getD k rti0 ∈ T := by rw [getD_elem0 _ _ _ (by rw [hnt9.out]; exact hlt)]; exact List.getElem_mem _
      have hg2 := hT.out _ hm
      have htq : Hid (ttQ T k = ratX (T.getD k rti0).1 (T.getD k rti0).2) := Lib.hid rfl
      generalize T.getD k rti0 = p at *
      obtain ⟨s, t⟩ := p
      dsimp only at e0 e1 hg2 htq
      have hrf := Lib.hid (ratF_ok (shoF_ok hg2).1)
      have hbd : Hid (dV (bodyB s).data.toList ≤ N ∧ dV t.data.toList ≤ N) := Lib.hid (by rw [hN.out]; exact sho_lt hg2)
      obtain ⟨tk, htk⟩ : ∃ x, Hid (ttQ T k = x) := ⟨_, Lib.hid rfl⟩
      have hx : Hid (ratX s t = tk) := Lib.hid (htq.out.symm.trans htk.out)
      have hcx : Hid (celQ v l i (k : Int) n = tk) := Lib.hid ((htot.out k hlt).trans htk.out)
      obtain ⟨φp, lp, ip, ep⟩ := (Inv.start hS.out.fz).frz (.cells #[.string s, .string t] 32)
      have hS1 := Lib.hid (hS.out.call ip)
      have LP := Lib.hid (hle.out.trans lp)
      have EP := Lib.hid ep
      have hq : Hid (cmpQ tk tk = 0) := Lib.hid (cmpQ_zero.2 rfl)
      have hk40 : k ≤ 40 := by omega
      clear ft hm hg2 ip ep lp hS htq hle
      go_upto_region 9 with fail
      generalize wr.alloc (.cells #[.string s, .string t] 32) = wz at *
      generalize wr.heap.size = b5 at *
      clear e0 e1
      have hSd : Hid (Inv w.heap.size w φ φp wz.drew) := Lib.hid (hS1.out.callB (bdrewN (Below.refl _ wz) 1))
      have LR := Lib.hid φp.le_refl
      have hcf := Lib.hid (fun (ψ : Phi) (W : World) (hl : Hid (φp.le ψ)) (hf : Fz ψ W) => (⟨box_cell EP.out hl.out hf 0, box_cell EP.out hl.out hf 1⟩ : W.cell? ⟨b5, 0, none⟩ = some (.string s) ∧ W.cell? ⟨b5, 1, none⟩ = some (.string t)))
      obtain ⟨x0, x1⟩ := hcf.out φp wz.drew LR hSd.out.fz
      obtain ⟨y0, y1⟩ := hcf.out φp wz LR hS1.out.fz
      have hi8 : i ≤ 8 := by omega
      go_region_held3 (fun w' => w'.cell? ⟨b5, 0, none⟩ = some (.string s) ∧ w'.cell? ⟨b5, 1, none⟩ = some (.string t)) (first | done | with_reducible exact ⟨x0, x1⟩ | with_reducible exact ⟨by assumption, by assumption⟩ | fail) (first
        | ((with_reducible refine (ROrder_P (Inv.sta _ _) hRD hM VA LB VB (Lib.hid φB.le_refl) HBO hq SB).mono ?_); rintro e wC ⟨φC, rfl, SC, LC⟩; obtain ⟨p0, p1⟩ := hcf.out φC wC (Lib.hid (LA.out.trans (LB.out.trans LC.out))) SC.out.fz)
        | ((with_reducible refine (RFracOf_P (Inv.sta _ _) hrf hx hbd SA).mono ?_); rintro e wB ⟨gB, aB, kB, cB, aB', kB', cB', φB, rfl, SB, LB, VB⟩; obtain ⟨o0, o1⟩ := hcf.out φB wB (Lib.hid (LA.out.trans LB.out)) SB.out.fz)
        | ((with_reducible refine (cell_P (Inv.sta _ _) hRD hM hB1 hM1 LP HS1 hn S1 hLl hn3 hi8 hnt40 hcel hLk hLb hv hk40 hcx hSd).mono ?_); rintro e wA ⟨gA, aA, kA, cA, aA', kA', cA', φA, rfl, SA, LA, VA⟩; obtain ⟨n0, n1⟩ := hcf.out φA wA LA SA.out.fz)
        | fail)
      all_goals
        go_wp2
        go_roundw
        case rel => exact ⟨k + 1, φC, by omega, by go_num, Lib.hid (LP.out.trans (LA.out.trans (LB.out.trans LC.out))), SC⟩
        case measure => (simp [intOf] <;> omega)
    · obtain rfl : k = nt := by omega
      go_wp2
      go_ret
      exact ⟨rfl, hS.out.bel⟩
theorem weightPostMeetsTotals_walk (w : World) (φ : Phi) (hφ : Fz φ w) (hp : PowP φ) (am : Option Addr) (cm : Nat) (ms : List Mgn) (sm : SlV φ am cm ms) (gm : ms.length * Tryz.prog.bytesOf 30 ≤ reachBytes ∧ ∀ x ∈ ms, GMgn x) (a : Option Addr) (cap : Nat) (xs : List Psn) (s : SlV φ a cap xs) (g : xs.length * Tryz.prog.bytesOf 76 ≤ reachBytes ∧ ∀ x ∈ xs, GPsnR x) (mi : Int) (gmi : IsI64 mi) :
    Calls Tryz.prog 3 #[.slice am ms.length cm, .slice a xs.length cap, .int .i64 mi] w fun e w' => e = .returned (.bool true) ∧ Below w.heap.size w w' :=
  have hM := lenB_p (j := 12000010) (k := 1333335) (by decide) (by decide)
  meets_core hM (Lib.hid (div_any hM)) (Lib.hid (Rdiv_any hM)) (p10_leP (by decide)) (Lib.hid rfl) (Lib.hid (fun h => ftB_p (Lib.hid rfl) (by decide) h)) (Lib.hid rfl) (Lib.hid (fun h => ceB_p (Lib.hid rfl) h (by decide) (by decide))) gmi hφ hp sm (Lib.hid rfl) (Lib.hid (mgnG_of gm.2)) s (Lib.hid rfl) (Lib.hid (psnG_ofR g.2))
end Go.Proofs.YtmlpjffnmkndoaaGreatDoor
