/- The law WeightRakingMatchesSpec returns true for every input and leaves its arguments as they were. No conditions. -/
import Derived.Test.YtmlpjffnmkndoaaGreatDoorRows
import Derived.Test.YtmlpjffnmkndoaaGreatDoorLB
import Derived.Test.YtmlpjffnmkndoaaGreatDoorCards
import Derived.Test.YtmlpjffnmkndoaaGreatDoorTie
import Derived.SevenTiedAt
import Derived.LaidMore
import Derived.MakeChecks
import Derived.Deep.DeepLaidRun
import Derived.Stop.LaidErr
import Derived.Lib.LaidTab
import Derived.ProofKit
import Derived.OpenShut
import Derived.Stop.Joined
import Derived.Lay
import Derived.Test.YtmlpjffnmkndoaaGreatDoorHT
import Derived.Laws.StructEq
import Derived.Test.YtmlpjffnmkndoaaGreatDoorUC
namespace Go.Proofs.YtmlpjffnmkndoaaGreatDoor
open Go.RowKit
set_option linter.unusedVariables false
set_option linter.unusedSimpArgs false
theorem Hh {p : Prop} (h : p) : Hid p := Lib.hid h
theorem gt0 {α : Type} {l : List α} {i : Nat} : l.toArray[i]? = l[i]? := List.getElem?_toArray
theorem sc0 {α : Type} {x a : α} {l : List α} : (x :: l).set 0 a = a :: l := rfl
theorem sc1 {α : Type} {x a : α} {l : List α} {i : Nat} : (x :: l).set (i + 1) a = x :: l.set i a := rfl
def rndW (W : World) (b : Nat) : Nat := match W.cell? ⟨b, 1, none⟩ with | some (.int .i64 t) => t.toNat | _ => 0
theorem rndW_eq {W : World} {b t : Nat} (h : W.cell? ⟨b, 1, none⟩ = some (.int .i64 (t : Int))) : rndW W b = t := by unfold rndW; rw [h]; simp
theorem emF_ofR {m : List Mgn} {l : List Psn} {k n nt : Nat} {T : List Rti} (hT : (m.getD k mgn0).2 = T) (hn : l.length = n) (hnt : T.length = nt) {b : Bool} (hb : nobB (fun c => (celR (wsL l n) l k nt n).getD c 0 = 0) T nt = b) : emF m l k = if b then 19 else 0 := by
 subst hT hn hnt
 have hweq : ∀ c : Int, celQ (fun j => (wsL l l.length).getD j 0) l k c l.length = celQ (wgtQ l) l k c l.length := fun c => celQ_congr (n := l.length) (fun j hj => wsL_get hj) _ (Nat.le_refl _)
 unfold emF
 rw [← hb]
 congr 2
 exact nobB_congr (fun c hc => by rw [celR_get hc, hweq])
theorem RkS.rel2 {T E : TypeId} {w0 W : World} {φ0 φ : Phi} {b1 b2 b3 cap : Nat} {cs1 cs2 cs3 : Array Value} {a : Option Addr} {rs : List Raw3} (h : RkS T E w0 φ0 φ b1 cs1 b2 cs2 b3 cs3 a cap rs W) : ∃ φ', φ.le φ' ∧ SlV φ' a cap rs ∧ RkS T E w0 φ0 φ' b1 cs1 b2 cs2 b3 cs3 none 0 [] W := by
 obtain ⟨φ2, l2, s2, r1, r2, r3⟩ := h.rel
 exact ⟨φ2, l2, s2, r1, r2, r3, Own.nil _ _ _ _, h.n12, h.n13, h.n23, fun x hx => by cases hx⟩
set_option maxRecDepth 100000 in
set_option maxHeartbeats 8000000 in
theorem RRake_any {M : Nat} (hD : Hid (RdivOk M)) (hM : LenB M) (hM2 : p10 2000 ≤ M) {N : Nat} (hN : Hid (N = 1000000000000)) {mm : List Mgn} {nm cm : Nat} {am : Option Addr} {n : Nat} (hB : Hid (n ≤ 3000 → RkB M N n)) {a : Option Addr} {cap : Nat} {l : List Psn} {w : World} {φ : Phi} (hφ : Fz φ w) (hp : PowP φ) (htp : TabP φ) (sm : SlV φ am cm mm) (hnm : Hid (mm.length = nm)) (hgm : Hid (∀ x ∈ mm, MgnG x)) (sl : SlV φ a cap l) (hn : Hid (l.length = n)) (hsz : Hid (∀ p ∈ l, PsnG p)) {pl rd : Int} {s t0 : ByteArray} (hs : s.size ≤ 9223372036854775807) (ht : t0.size ≤ 9223372036854775807) {r : Rkd × Int} (hR : Hid (rakR mm l pl rd (s, t0) = r)) :
  Calls Tryz.prog 28 #[.slice am nm cm, .slice a n cap, .agg #[.int .i64 pl, .int .i64 rd, .string s, .string t0]] w (RkdP r φ w) := by
 have HM2 := Hh hM2
 have HP := Hh hp
 have HTP := Hh htp
 have HSM := Hh sm
 have HSL := Hh sl
 have hnml : nm ≤ 9223372036854775807 := by have := sm.capn; have := sm.capm; rw [hnm.out] at *; unfold maxLen at *; omega
 obtain ⟨φb, lb, ib, eb⟩ := (Inv.start hφ).frz (.cells #[.int .i64 pl, .int .i64 rd, .string s, .string t0] 42)
 have hRS := RsSt.start ib #[.slice none 0 0, .int .i64 0, .string ⟨#[]⟩, .string ⟨#[]⟩, .bool false] 44
 rw [alloc_sz] at hRS
 have HRS := Hh hRS
 have EB := Hh eb
 have LB := Hh lb
 obtain ⟨f, hf⟩ : ∃ x, Hid (ppmF mm l = x) := ⟨_, Hh rfl⟩
 have HCP := Hh (fun W (ψ : Phi) (hf9 : Fz ψ W) (hl : φ.le ψ) => RCheckPeople_any hD hM HM2.out hf9 (HP.out.mono hl) (HTP.out.mono hl) (HSM.out.mono hl) hnm hgm (HSL.out.mono hl) hn hsz hf)
 obtain ⟨kf, hkf⟩ : ∃ x, Hid (rkF pl rd (s, t0) = x) := ⟨_, Hh rfl⟩
 have hq := hkf.out
 unfold rkF at hq
 dsimp only at hq
 obtain ⟨g, hg⟩ : ∃ g, Hid (shoF s t0 = g) := ⟨_, Hh rfl⟩
 obtain ⟨o1, ho1⟩ : ∃ g, Hid (outB pl 0 12 = g) := ⟨_, Hh rfl⟩
 obtain ⟨o2, ho2⟩ : ∃ g, Hid (outB rd 0 200 = g) := ⟨_, Hh rfl⟩
 obtain ⟨e, he⟩ : ∃ e, Hid (ratX s t0 = e) := ⟨_, Hh rfl⟩
 rw [hg.out, ho1.out, ho2.out, he.out] at hq
 clear hM2 hφ hp htp sm sl ib eb lb hRS
 go_enter Tryz.func28, Tryz.ntmps28
 go_upto_region 1 with fail
 generalize (w.alloc (.cells #[.int .i64 pl, .int .i64 rd, .string s, .string t0] 42)).alloc (.cells #[.slice none 0 0, .int .i64 0, .string ⟨#[]⟩, .string ⟨#[]⟩, .bool false] 44) = wx at *
 obtain ⟨br, hbr⟩ : ∃ b, w.heap.size = b := ⟨_, rfl⟩
 rw [hbr] at EB HRS ⊢
 have HBR := Hh hbr
 obtain ⟨b6, hb6⟩ : ∃ b, br + 1 = b := ⟨_, rfl⟩
 rw [hb6] at HRS ⊢
 clear hbr hb6
 have hbox := Hh (fun (W : World) (hf : Fz φb W) => (⟨box_cell EB.out φb.le_refl hf 0, box_cell EB.out φb.le_refl hf 1, box_cell EB.out φb.le_refl hf 2, box_cell EB.out φb.le_refl hf 3⟩ : W.cell? ⟨br, 0, none⟩ = some (.int .i64 pl) ∧ W.cell? ⟨br, 1, none⟩ = some (.int .i64 rd) ∧ W.cell? ⟨br, 2, none⟩ = some (.string s) ∧ W.cell? ⟨br, 3, none⟩ = some (.string t0)))
 by_cases hf0 : f = 0
 case neg =>
  have HQ := Hh (hR.out.symm.trans (rakR_bad hf.out hf0))
  have h0i : (f == 0) = false := by simp [hf0]
  have h0j : (f != 0) = true := by simp [hf0]
  clear hf0 hq
  go_wp2_with (first
   | (go_at_call 23; (with_reducible refine (HCP.out _ _ HRS.out.inv.fz LB.out).mono ?_); rintro en w1 ⟨rfl, hb1⟩; have H1 := Hh (HRS.out.callB hb1); obtain ⟨x0, x1, x2, x3⟩ := hbox.out w1 H1.out.inv.fz; obtain ⟨z0, z1, z2, z3, z4, z5, z6, z7, z8, z9⟩ := H1.out.rkd; clear hb1)
   | (go_at_call 67; (with_reducible refine (within9 _ _ _ _ ho1).mono ?_); rintro en w' ⟨rfl, rfl⟩)
   | (go_at_call 67; (with_reducible refine (within9 _ _ _ _ ho2).mono ?_); rintro en w' ⟨rfl, rfl⟩)
   | (go_at_call 72; (with_reducible refine (ShortRatio_any hM HM2.out hs ht hg H1.out.inv.fz (HP.out.mono LB.out)).mono ?_); rintro en w2 ⟨rfl, hb2⟩; have H2 := Hh (H1.out.callB hb2); obtain ⟨y0, y1, y2, y3⟩ := hbox.out w2 H2.out.inv.fz; obtain ⟨v0, v1, v2, v3, v4, v5, v6, v7, v8, v9⟩ := H2.out.rkd; clear hb2)
   | fail)
  have hZ := Hh (((((H1.out.set 0 (Value.slice none 0 0)).set 1 (Value.int .i64 0)).set 2 (Value.string ⟨#[]⟩)).set 3 (Value.string ⟨#[]⟩)).set 4 (Value.bool false))
  have e0 : _ = some (Value.slice none 0 0) := hZ.out.k.cell 0
  have e1 : _ = some (Value.int .i64 0) := hZ.out.k.cell 1
  have e2 : _ = some (Value.string ⟨#[]⟩) := hZ.out.k.cell 2
  have e3 : _ = some (Value.string ⟨#[]⟩) := hZ.out.k.cell 3
  have e4 : _ = some (Value.bool false) := hZ.out.k.cell 4
  (try simp only [Exit.inBlock, Exit.then])
  refine bodyPost_ret (v := .tuple #[.agg #[(Value.slice none 0 0), (Value.int .i64 0), (Value.string ⟨#[]⟩), (Value.string ⟨#[]⟩), (Value.bool false)], .int .i64 f]) (by simp [results, Tryz.results28, go_sem, e0, e1, e2, e3, e4]) rfl ?_
  obtain rfl := HQ.out
  exact ⟨none, 0, φb, rfl, hZ.out.inv, SlV.empty φb⟩
 case pos =>
 subst hf0
 cases o1
 case true =>
  have hk1 : rkF pl rd (s, t0) = 1 := by rw [if_pos (Or.inl rfl)] at hq; rw [hkf.out]; exact hq.symm
  have HQ := Hh (hR.out.symm.trans (rakR_fault hf.out hk1 (by decide)))
  clear hq hk1
  go_wp2_with (first
   | (go_at_call 23; (with_reducible refine (HCP.out _ _ HRS.out.inv.fz LB.out).mono ?_); rintro en w1 ⟨rfl, hb1⟩; have H1 := Hh (HRS.out.callB hb1); obtain ⟨x0, x1, x2, x3⟩ := hbox.out w1 H1.out.inv.fz; obtain ⟨z0, z1, z2, z3, z4, z5, z6, z7, z8, z9⟩ := H1.out.rkd; clear hb1)
   | (go_at_call 67; (with_reducible refine (within9 _ _ _ _ ho1).mono ?_); rintro en w' ⟨rfl, rfl⟩)
   | (go_at_call 67; (with_reducible refine (within9 _ _ _ _ ho2).mono ?_); rintro en w' ⟨rfl, rfl⟩)
   | (go_at_call 72; (with_reducible refine (ShortRatio_any hM HM2.out hs ht hg H1.out.inv.fz (HP.out.mono LB.out)).mono ?_); rintro en w2 ⟨rfl, hb2⟩; have H2 := Hh (H1.out.callB hb2); obtain ⟨y0, y1, y2, y3⟩ := hbox.out w2 H2.out.inv.fz; obtain ⟨v0, v1, v2, v3, v4, v5, v6, v7, v8, v9⟩ := H2.out.rkd; clear hb2)
   | fail)
  have hZ := Hh (((((H1.out.set 0 (Value.slice none 0 0)).set 1 (Value.int .i64 0)).set 2 (Value.string ⟨#[]⟩)).set 3 (Value.string ⟨#[]⟩)).set 4 (Value.bool false))
  have e0 : _ = some (Value.slice none 0 0) := hZ.out.k.cell 0
  have e1 : _ = some (Value.int .i64 0) := hZ.out.k.cell 1
  have e2 : _ = some (Value.string ⟨#[]⟩) := hZ.out.k.cell 2
  have e3 : _ = some (Value.string ⟨#[]⟩) := hZ.out.k.cell 3
  have e4 : _ = some (Value.bool false) := hZ.out.k.cell 4
  (try simp only [Exit.inBlock, Exit.then])
  refine bodyPost_ret (v := .tuple #[.agg #[(Value.slice none 0 0), (Value.int .i64 0), (Value.string ⟨#[]⟩), (Value.string ⟨#[]⟩), (Value.bool false)], .int .i64 1]) (by simp [results, Tryz.results28, go_sem, e0, e1, e2, e3, e4]) rfl ?_
  obtain rfl := HQ.out
  exact ⟨none, 0, φb, rfl, hZ.out.inv, SlV.empty φb⟩
 case false =>
 cases o2
 case true =>
  have hk1 : rkF pl rd (s, t0) = 1 := by rw [if_pos (Or.inr rfl)] at hq; rw [hkf.out]; exact hq.symm
  have HQ := Hh (hR.out.symm.trans (rakR_fault hf.out hk1 (by decide)))
  clear hq hk1
  go_wp2_with (first
   | (go_at_call 23; (with_reducible refine (HCP.out _ _ HRS.out.inv.fz LB.out).mono ?_); rintro en w1 ⟨rfl, hb1⟩; have H1 := Hh (HRS.out.callB hb1); obtain ⟨x0, x1, x2, x3⟩ := hbox.out w1 H1.out.inv.fz; obtain ⟨z0, z1, z2, z3, z4, z5, z6, z7, z8, z9⟩ := H1.out.rkd; clear hb1)
   | (go_at_call 67; (with_reducible refine (within9 _ _ _ _ ho1).mono ?_); rintro en w' ⟨rfl, rfl⟩)
   | (go_at_call 67; (with_reducible refine (within9 _ _ _ _ ho2).mono ?_); rintro en w' ⟨rfl, rfl⟩)
   | (go_at_call 72; (with_reducible refine (ShortRatio_any hM HM2.out hs ht hg H1.out.inv.fz (HP.out.mono LB.out)).mono ?_); rintro en w2 ⟨rfl, hb2⟩; have H2 := Hh (H1.out.callB hb2); obtain ⟨y0, y1, y2, y3⟩ := hbox.out w2 H2.out.inv.fz; obtain ⟨v0, v1, v2, v3, v4, v5, v6, v7, v8, v9⟩ := H2.out.rkd; clear hb2)
   | fail)
  have hZ := Hh (((((H1.out.set 0 (Value.slice none 0 0)).set 1 (Value.int .i64 0)).set 2 (Value.string ⟨#[]⟩)).set 3 (Value.string ⟨#[]⟩)).set 4 (Value.bool false))
  have e0 : _ = some (Value.slice none 0 0) := hZ.out.k.cell 0
  have e1 : _ = some (Value.int .i64 0) := hZ.out.k.cell 1
  have e2 : _ = some (Value.string ⟨#[]⟩) := hZ.out.k.cell 2
  have e3 : _ = some (Value.string ⟨#[]⟩) := hZ.out.k.cell 3
  have e4 : _ = some (Value.bool false) := hZ.out.k.cell 4
  (try simp only [Exit.inBlock, Exit.then])
  refine bodyPost_ret (v := .tuple #[.agg #[(Value.slice none 0 0), (Value.int .i64 0), (Value.string ⟨#[]⟩), (Value.string ⟨#[]⟩), (Value.bool false)], .int .i64 1]) (by simp [results, Tryz.results28, go_sem, e0, e1, e2, e3, e4]) rfl ?_
  obtain rfl := HQ.out
  exact ⟨none, 0, φb, rfl, hZ.out.inv, SlV.empty φb⟩
 case false =>
 rw [if_neg (by simp)] at hq
 by_cases hg0 : g = 0
 case neg =>
  have hk1 : rkF pl rd (s, t0) = g := by rw [if_pos hg0] at hq; rw [hkf.out]; exact hq.symm
  have HQ := Hh (hR.out.symm.trans (rakR_fault hf.out hk1 hg0))
  have h0i : (g == 0) = false := by simp [hg0]
  have h0j : (g != 0) = true := by simp [hg0]
  clear hq hk1 hg0
  go_wp2_with (first
   | (go_at_call 23; (with_reducible refine (HCP.out _ _ HRS.out.inv.fz LB.out).mono ?_); rintro en w1 ⟨rfl, hb1⟩; have H1 := Hh (HRS.out.callB hb1); obtain ⟨x0, x1, x2, x3⟩ := hbox.out w1 H1.out.inv.fz; obtain ⟨z0, z1, z2, z3, z4, z5, z6, z7, z8, z9⟩ := H1.out.rkd; clear hb1)
   | (go_at_call 67; (with_reducible refine (within9 _ _ _ _ ho1).mono ?_); rintro en w' ⟨rfl, rfl⟩)
   | (go_at_call 67; (with_reducible refine (within9 _ _ _ _ ho2).mono ?_); rintro en w' ⟨rfl, rfl⟩)
   | (go_at_call 72; (with_reducible refine (ShortRatio_any hM HM2.out hs ht hg H1.out.inv.fz (HP.out.mono LB.out)).mono ?_); rintro en w2 ⟨rfl, hb2⟩; have H2 := Hh (H1.out.callB hb2); obtain ⟨y0, y1, y2, y3⟩ := hbox.out w2 H2.out.inv.fz; obtain ⟨v0, v1, v2, v3, v4, v5, v6, v7, v8, v9⟩ := H2.out.rkd; clear hb2)
   | fail)
  have hZ := Hh (((((H2.out.set 0 (Value.slice none 0 0)).set 1 (Value.int .i64 0)).set 2 (Value.string ⟨#[]⟩)).set 3 (Value.string ⟨#[]⟩)).set 4 (Value.bool false))
  have e0 : _ = some (Value.slice none 0 0) := hZ.out.k.cell 0
  have e1 : _ = some (Value.int .i64 0) := hZ.out.k.cell 1
  have e2 : _ = some (Value.string ⟨#[]⟩) := hZ.out.k.cell 2
  have e3 : _ = some (Value.string ⟨#[]⟩) := hZ.out.k.cell 3
  have e4 : _ = some (Value.bool false) := hZ.out.k.cell 4
  (try simp only [Exit.inBlock, Exit.then])
  refine bodyPost_ret (v := .tuple #[.agg #[(Value.slice none 0 0), (Value.int .i64 0), (Value.string ⟨#[]⟩), (Value.string ⟨#[]⟩), (Value.bool false)], .int .i64 g]) (by simp [results, Tryz.results28, go_sem, e0, e1, e2, e3, e4]) rfl ?_
  obtain rfl := HQ.out
  exact ⟨none, 0, φb, rfl, hZ.out.inv, SlV.empty φb⟩
 case pos =>
 subst hg0
 rw [if_neg (by simp)] at hq
 have hN1 : 1 ≤ N := by rw [hN.out]; decide
 have hrf := Hh (ratF_ok (shoF_ok hg.out).1)
 have hbd : Hid (dV (bodyB s).data.toList ≤ N ∧ dV t0.data.toList ≤ N) := Hh (by rw [hN.out]; exact sho_lt hg.out)
 go_upto_region 9 with (first
  | (go_at_call 23; (with_reducible refine (HCP.out _ _ HRS.out.inv.fz LB.out).mono ?_); rintro en w1 ⟨rfl, hb1⟩; have H1 := Hh (HRS.out.callB hb1); obtain ⟨x0, x1, x2, x3⟩ := hbox.out w1 H1.out.inv.fz; clear hb1)
  | (go_at_call 67; (with_reducible refine (within9 _ _ _ _ ho1).mono ?_); rintro en w' ⟨rfl, rfl⟩)
  | (go_at_call 67; (with_reducible refine (within9 _ _ _ _ ho2).mono ?_); rintro en w' ⟨rfl, rfl⟩)
  | (go_at_call 72; (with_reducible refine (ShortRatio_any hM HM2.out hs ht hg H1.out.inv.fz (HP.out.mono LB.out)).mono ?_); rintro en w2 ⟨rfl, hb2⟩; have H2 := Hh (H1.out.callB hb2); obtain ⟨y0, y1, y2, y3⟩ := hbox.out w2 H2.out.inv.fz; clear hb2)
  | fail)
 clear x0 x1 x2 x3 H1 HRS
 go_upto_region 10 with (go_at_call 12; (with_reducible refine (RFracOf_P (RsSt.sta _ _ _ _ _) hrf he hbd H2).mono ?_); rintro en w4 ⟨g0, a0, k0, c0, a0', k0', c0', φ4, rfl, H4, L4, V4⟩)
 clear y0 y1 y2 y3
 obtain ⟨φ5, l5, i5, e5⟩ := (Inv.start H4.out.inv.fz).frz (.cells #[.bool g0, .slice a0 k0 c0, .slice a0' k0' c0'] 36)
 have H5 := Hh (H4.out.call i5)
 have EE := Hh e5
 have VE := Hh (V4.out.mono l5)
 have L5 := Hh (L4.out.trans l5)
 have LR5 := Hh φ5.le_refl
 clear e5 i5 l5 H4 V4 H2
 generalize w4.alloc (.cells #[.bool g0, .slice a0 k0 c0, .slice a0' k0' c0'] 36) = w5 at *
 generalize w4.heap.size = b10 at *
 have x0 : w5.cell? ⟨b10, 0, none⟩ = some (.bool g0) := box_cell EE.out φ5.le_refl H5.out.inv.fz 0
 have x1 : w5.cell? ⟨b10, 1, none⟩ = some (.slice a0 k0 c0) := box_cell EE.out φ5.le_refl H5.out.inv.fz 1
 have x2 : w5.cell? ⟨b10, 2, none⟩ = some (.slice a0' k0' c0') := box_cell EE.out φ5.le_refl H5.out.inv.fz 2
 by_cases he0 : e < 0
 case pos =>
  have hk1 : rkF pl rd (s, t0) = 1 := by rw [if_pos he0] at hq; rw [hkf.out]; exact hq.symm
  have HQ := Hh (hR.out.symm.trans (rakR_fault hf.out hk1 (by decide)))
  have hbl : Hid (decide (e < 0) = true) := Hh (decide_eq_true he0)
  clear hq hk1 he0
  go_wp2_with (go_at_call 16; (with_reducible refine (RBelow_P (RsSt.sta _ _ _ _ _) VE LR5 hbl H5).mono ?_); rintro en w6 ⟨rfl, H6⟩; obtain ⟨z0, z1, z2, z3, z4, z5, z6, z7, z8, z9⟩ := H6.out.rkd)
  have hZ := Hh (((((H6.out.set 0 (Value.slice none 0 0)).set 1 (Value.int .i64 0)).set 2 (Value.string ⟨#[]⟩)).set 3 (Value.string ⟨#[]⟩)).set 4 (Value.bool false))
  have e0 : _ = some (Value.slice none 0 0) := hZ.out.k.cell 0
  have e1 : _ = some (Value.int .i64 0) := hZ.out.k.cell 1
  have e2 : _ = some (Value.string ⟨#[]⟩) := hZ.out.k.cell 2
  have e3 : _ = some (Value.string ⟨#[]⟩) := hZ.out.k.cell 3
  have e4 : _ = some (Value.bool false) := hZ.out.k.cell 4
  (try simp only [Exit.inBlock, Exit.then])
  refine bodyPost_ret (v := .tuple #[.agg #[(Value.slice none 0 0), (Value.int .i64 0), (Value.string ⟨#[]⟩), (Value.string ⟨#[]⟩), (Value.bool false)], .int .i64 1]) (by simp [results, Tryz.results28, go_sem, e0, e1, e2, e3, e4]) rfl ?_
  obtain rfl := HQ.out
  exact ⟨none, 0, φ5, rfl, hZ.out.inv, SlV.empty φ5⟩
 case neg =>
 have hbl : Hid (decide (e < 0) = false) := Hh (decide_eq_false he0)
 rw [if_neg he0] at hq
 subst hq
 obtain ⟨⟨p, rfl, hp12⟩, ⟨R, rfl, hR200⟩, hsho, _⟩ := rkF_ok hkf.out
 obtain ⟨q1, q2, q3, q4, q5⟩ := ppmF_cells hnm.out hn.out hf.out
 have hnm8 := q1
 have hn3 := q2
 have hok := Hh q3
 have hnt40 := Hh q4
 have hcel := Hh q5
 have htot := Hh (ppmF_tot hnm.out hf.out)
 have hpos := Hh (ppmF_pos hn.out hf.out)
 have hT : Hid (∀ i, i < nm → ∀ r ∈ (mm.getD i mgn0).2, shoF r.1 r.2 = 0) := Hh (fun i hi r hr => (htot.out i hi r hr).1)
 have hBB := Hh (hB.out hn3)
 obtain ⟨P, hP⟩ : ∃ P, Hid (10 ^ p = P) := ⟨_, Hh rfl⟩
 have hPN : P ≤ N := by
  rw [← hP.out, hN.out]
  exact Nat.le_trans (Nat.pow_le_pow_right (by decide) hp12) (by decide)
 have hTB : Hid (∀ i, i < nm → ∀ c, 0 ≤ ttQ (mm.getD i mgn0).2 c ∧ ttQ (mm.getD i mgn0).2 c ≤ ((N : Int) : Rat)) := Hh (fun i hi c => by rw [hN.out]; exact ttQ_bd (htot.out i hi) c)
 have hWnn : Hid (∀ t j, j < n → 0 ≤ (rkW P mm l n t).getD j 0) := Hh (rkW_nn (fun i hi => htot.out i (by rw [← hnm.out]; exact hi)) (fun i hi j hj => by
  obtain ⟨_, c, _, hc⟩ := hcel.out i (by rw [← hnm.out]; exact hi) j hj
  exact ⟨c, hc⟩) hpos.out)
 have hPnn : Hid (∀ t k, k ≤ nm → ∀ j, j < n → 0 ≤ (rkP P mm l n (rkW P mm l n t) k).getD j 0) := Hh (fun t k hk => rk_nn (fun i hi => htot.out i (by rw [← hnm.out]; exact hi)) (fun i hi j hj => by
  obtain ⟨_, c, _, hc⟩ := hcel.out i (by rw [← hnm.out]; exact hi) j hj
  exact ⟨c, hc⟩) (hWnn.out t) k (by rw [hnm.out]; exact hk))
 have HW : Hid (∀ (ψ : Phi) (W : World), Fz ψ W → φ.le ψ → Calls Tryz.prog 56 #[.slice a n cap] W (fun e w' => ∃ ao co φ', e = .returned (.slice ao n co) ∧ Inv W.heap.size W ψ φ' w' ∧ Own W.heap.size φ' w' 36 ao co ((wsL l n).map (Rx.mk (N := N) (D := N))))) := Hh (by
  have e := hN.out
  subst e
  intro ψ W hf hl
  have := Rweights_own hf (HSL.out.mono hl) hn hn3 hok
  rwa [← rxw_L rfl hn.out] at this)
 have hwl : Hid (((wsL l n).map (Rx.mk (N := N) (D := N))).length = n) := Hh (by rw [List.length_map, wsL_len])
 have HSU := Hh (fun (k : Nat) (hk : k < nm) (nk : ByteArray) (ar : Option Addr) (cr nt : Nat) (hnt9 : Hid ((mm.getD k mgn0).2.length = nt)) (ws : List Rat) (aw : Option Addr) (cw : Nat) (ψ : Phi) (W : World) (hf : Fz ψ W) (hl : φ.le ψ) (sw : RowB ψ W aw n ws (N * N) N) => Rsums_row (nm := nk) (ar := ar) (cr := cr) (nt := nt) (mi := k) (cw := cw) hD hM hN1 hBB.out.f.c1 hBB.out.f.c2 hf (HSL.out.mono hl) hn sw hn3 (by rw [← hnt9.out]; exact hnt40.out k hk) (by omega : k ≤ 8) (Hh (fun j hj => by rw [← hnt9.out]; exact hcel.out k hk j hj)))
 have HDi := Hh (fun (ws : List Rat) (aw : Option Addr) (cw : Nat) (ψ : Phi) (W : World) (hf9 : Fz ψ W) (hl : φ.le ψ) (sw : RowB ψ W aw n ws (N * N) N) => Rdistance_any (cw := cw) hD hM hN hN1 hBB hf9 (HSM.out.mono hl) hnm hnm8 hnt40 hT (HSL.out.mono hl) hn sw hn3 hcel)
 have hNM : N * N ≤ M := hBB.out.h1
 have hDM : N ≤ M := hBB.out.h2
 have hNN : N ≤ N * N := Nat.le_mul_of_pos_right _ hN1
 have hBT0 : Hid (N * N * N ≤ M ∧ N * N ≤ M ∧ N * N ≤ M ∧ N ≤ M) := Hh ⟨hBB.out.f.c8, hBB.out.f.c9, hBB.out.f.c7, hBB.out.f.c10⟩
 obtain ⟨NB, hNB⟩ : ∃ x, Hid (n * (N * N) * N ^ n = x) := ⟨_, Hh rfl⟩
 obtain ⟨DB, hDB⟩ : ∃ x, Hid (N ^ n = x) := ⟨_, Hh rfl⟩
 obtain ⟨ND, hND⟩ : ∃ x, n * (N * N) * N ^ n * N + N * N ^ n = x := ⟨_, rfl⟩
 obtain ⟨DD, hDD⟩ : ∃ x, N ^ n * N = x := ⟨_, rfl⟩
 have HBE : Hid (ND * N + N * DD ≤ M ∧ DD * N ≤ M) := Hh (by rw [← hND, ← hDD]; exact ⟨hBB.out.g1, hBB.out.g2⟩)
 have hNDM : ND ≤ M := by rw [← hND]; exact hBB.out.d1
 have hDDM : DD ≤ M := by rw [← hDD]; exact hBB.out.d2
 rw [hND, hDD] at HDi
 have HBO : Hid (N * N * N * DB ≤ M ∧ N * N * NB ≤ M ∧ DB ≤ M) := Hh (by
  rw [← hDB.out, ← hNB.out]
  refine ⟨?_, ?_, hBB.out.f.c2⟩
  ·rw [Nat.mul_assoc (N * N) N]; exact hBB.out.f.c5
  ·rw [Nat.mul_assoc N N]; exact hBB.out.f.c6)
 have hrefo : Hid (N * N * N * DB ≤ N * N * (N * N ^ n) ∧ N * N * NB ≤ N * (N * (n * (N * N) * N ^ n))) := Hh (by
  rw [← hDB.out, ← hNB.out]
  exact ⟨Nat.le_of_eq (Nat.mul_assoc ..), Nat.le_of_eq (Nat.mul_assoc ..)⟩)
 have hreft : Hid (N * N * N ≤ N * N * N ∧ N * N ≤ N * N) := Hh ⟨Nat.le_refl _, Nat.le_refl _⟩
 rw [hNB.out, hDB.out] at HSU
 clear q1 q2 q3 q4 q5 hB hND hDD hsho htot hok he0 hrf hbd HCP
 go_upto_region 12 with (go_at_call 16; (with_reducible refine (RBelow_P (RsSt.sta _ _ _ _ _) VE LR5 hbl H5).mono ?_); rintro en w6 ⟨rfl, H6⟩)
 clear x0 x1 x2 H5
 go_upto_region 13 with (go_at_call 56; (with_reducible refine (HW.out _ _ H6.out.inv.fz H6.out.inv.le).mono ?_); rintro en w7 ⟨aw, cw, φ7, rfl, hi7, ho7⟩; have H7 := Hh (H6.out.call hi7); have L7 := Hh hi7.le; have O7 := Hh ho7; have hsz7 := hi7.size)
 obtain ⟨rs0, hrl0, hor0, hrx0⟩ := O7.out.rawR
 have hrn0 : Hid (rs0.length = n) := Hh (by rw [hrl0, hwl.out])
 have hX0 : Hid (∀ j, j < n → FrX φ7 (rs0.getD j raw0).v ((wsL l n).getD j 0) (N * N) N) := Hh (fun j hj => by
  have := hrx0 j (by rw [hrn0.out]; exact hj)
  rw [rx_getD] at this
  exact this.le hNN (Nat.le_refl _))
 have hR7 : Hid (RwO 44 36 w φ φ7 b6 #[.slice none 0 0, .int .i64 0, .string ⟨#[]⟩, .string ⟨#[]⟩, .bool false] aw cw rs0 w7) := Hh ⟨H7.out, hor0.base H6.out.inv.size, fun x hx => by
  have h1 := H6.out.k.lt
  have h2 := (O7.out.lt x hx).1
  omega⟩
 clear O7 hrl0 hor0 hrx0 H6 H7 HW hsz7 hi7 ho7 hwl
 go_wp2
 go_loopw [58] (fun iv wr => ∃ (k : Nat) (φ' : Phi), k ≤ nm ∧ iv = .int .i64 (k : Int) ∧ Hid (∀ i, i < k → emF mm l i = 0) ∧ Hid (φ7.le φ') ∧ Hid (RwO 44 36 w φ φ' b6 #[.slice none 0 0, .int .i64 0, .string ⟨#[]⟩, .string ⟨#[]⟩, .bool false] aw cw rs0 wr)) (fun iv _ => nm - (intOf iv).toNat)
 case atStart => exact ⟨0, φ7, Nat.zero_le _, rfl, none_yet _, Hh φ7.le_refl, hR7⟩
 case round =>
  clear hR7
  obtain ⟨k, φ', hk, rfl, hem, hle, hS⟩ := hrel
  by_cases hlt : k < nm
  ·have hlti : (k : Int) < (nm : Int) := by omega
   obtain ⟨bm, om, hbm, fm⟩ := HSM.out.mgnsD hnm hlt
   obtain ⟨ar, cr, sr, f1⟩ := fm k hlt
   obtain ⟨d0, d1⟩ := f1 wr (hS.out.r.inv.fz.sub hS.out.r.inv.le)
   obtain ⟨nt, hnt9⟩ : ∃ x, Hid ((mm.getD k mgn0).2.length = x) := ⟨_, Hh rfl⟩
   rw [hnt9.out] at d1
   have hnt : nt ≤ 40 := by rw [← hnt9.out]; exact hnt40.out k hlt
   obtain ⟨b, hb⟩ : ∃ b, Hid (nobB (fun c => (celR (wsL l n) l k nt n).getD c 0 = 0) (mm.getD k mgn0).2 nt = b) := ⟨_, Hh rfl⟩
   have hee := Hh (emF_ofR (m := mm) rfl hn.out hnt9.out hb.out)
   have hsu := Hh (HSU.out k hlt (mm.getD k mgn0).1 ar cr nt hnt9 (wsL l n))
   have hTk := Hh (hT.out k hlt)
   obtain ⟨T, hTT⟩ : ∃ T, (mm.getD k mgn0).2 = T := ⟨_, rfl⟩
   rw [hTT] at hnt9 hTk sr hb
   generalize (mm.getD k mgn0).1 = nk at *
   have hno := Hh (fun (ax : Option Addr) (cx : Nat) (ψ : Phi) (W : World) (hf : Fz ψ W) (hl : φ.le ψ) (sx : SlV ψ ax cx ((celR (wsL l n) l k nt n).map (Rx.mk (N := NB) (D := DB)))) => nobody_any (nm := nk) hf (sr.mono hl) hnt9 hTk sx (Hh (by simp [celR])) hnt hb)
   cases hbm
   obtain ⟨φp, lp, ip, ep⟩ := (Inv.start hS.out.r.inv.fz).frz (.cells #[.string nk, .slice ar nt cr] 30)
   have hS1 := Hh (hS.out.call ip)
   have LP := Hh (hle.out.trans lp)
   have EP := Hh ep
   have hsl : Hid (((celR (wsL l n) l k nt n).map (Rx.mk (N := NB) (D := DB))).length = nt) := Hh (by simp [celR])
   clear fm f1 hTT ip ep lp hS hle
   go_upto_region 16 with fail
   generalize wr.alloc (.cells #[.string nk, .slice ar nt cr] 30) = wz at *
   generalize wr.heap.size = b5 at *
   clear d0 d1
   have hSd : Hid (RwO 44 36 w φ φp b6 #[.slice none 0 0, .int .i64 0, .string ⟨#[]⟩, .string ⟨#[]⟩, .bool false] aw cw rs0 wz.drew) := Hh (hS1.out.callB (bdrewN (Below.refl _ wz) 1))
   have hrow := Hh (RowB.own2 hSd.out.o hrn0 (fun j hj => (hX0.out j hj).mono LP.out))
   have hcf := Hh (fun (ψ : Phi) (W : World) (hl : φp.le ψ) (hf : Fz ψ W) => (⟨box_cell EP.out hl hf 0, box_cell EP.out hl hf 1⟩ : W.cell? ⟨b5, 0, none⟩ = some (.string nk) ∧ W.cell? ⟨b5, 1, none⟩ = some (.slice ar nt cr)))
   obtain ⟨x0, x1⟩ := hcf.out φp wz.drew φp.le_refl hSd.out.r.inv.fz
   obtain ⟨y0, y1⟩ := hcf.out φp wz φp.le_refl hS1.out.r.inv.fz
   cases b
   ·have hem2 := Hh (next_ok (f := emF mm l) hem.out (by rw [hee.out]; rfl))
    go_region_held3 (fun w' => w'.cell? ⟨b5, 0, none⟩ = some (.string nk) ∧ w'.cell? ⟨b5, 1, none⟩ = some (.slice ar nt cr)) (first | done | with_reducible exact ⟨x0, x1⟩ | with_reducible exact ⟨by assumption, by assumption⟩ | fail) (first
     | ((with_reducible refine (hno.out _ _ _ _ S3.out.r.inv.fz S3.out.r.inv.le SS3.out).mono ?_); rintro en w4 ⟨rfl, hb4⟩; have S4 := Hh (S3.out.callB hb4); obtain ⟨o0, o1⟩ := hcf.out φ3 w4 L3.out S4.out.r.inv.fz; clear hb4)
     | ((with_reducible refine (hsu.out _ _ _ _ hSd.out.r.inv.fz hSd.out.r.inv.le hrow.out).mono ?_); rintro en w3 ⟨a3, c3, φ3, rfl, hi3, s3⟩; rw [hsl.out]; have S3 := Hh (hSd.out.call hi3); have SS3 := Hh s3; have L3 := Hh hi3.le; obtain ⟨p0, p1⟩ := hcf.out φ3 w3 L3.out S3.out.r.inv.fz; clear hi3 s3)
     | fail)
    all_goals
     go_wp2
     go_roundw
     case rel => exact ⟨k + 1, φ3, by omega, by go_num, hem2.out, Hh (LP.out.trans L3.out), S4⟩
     case measure => (simp [intOf] <;> omega)
   ·have HQ := Hh (hR.out.symm.trans (rakR_em hf.out hkf.out hnm.out hlt hem.out (by rw [hee.out]; decide)))
    go_region_held3 (fun w' => w'.cell? ⟨b5, 0, none⟩ = some (.string nk) ∧ w'.cell? ⟨b5, 1, none⟩ = some (.slice ar nt cr)) (first | done | with_reducible exact ⟨x0, x1⟩ | with_reducible exact ⟨by assumption, by assumption⟩ | fail) (first
     | ((with_reducible refine (hno.out _ _ _ _ S3.out.r.inv.fz S3.out.r.inv.le SS3.out).mono ?_); rintro en w4 ⟨rfl, hb4⟩; have S4 := Hh (S3.out.callB hb4); obtain ⟨o0, o1⟩ := hcf.out φ3 w4 L3.out S4.out.r.inv.fz; clear hb4)
     | ((with_reducible refine (hsu.out _ _ _ _ hSd.out.r.inv.fz hSd.out.r.inv.le hrow.out).mono ?_); rintro en w3 ⟨a3, c3, φ3, rfl, hi3, s3⟩; rw [hsl.out]; have S3 := Hh (hSd.out.call hi3); have SS3 := Hh s3; have L3 := Hh hi3.le; obtain ⟨p0, p1⟩ := hcf.out φ3 w3 L3.out S3.out.r.inv.fz; clear hi3 s3)
     | fail)
    all_goals
     obtain ⟨z0, z1, z2, z3, z4, z5, z6, z7, z8, z9⟩ := S4.out.r.rkd
     go_wp2
     have hZ := Hh (((((S4.out.r.set 0 (Value.slice none 0 0)).set 1 (Value.int .i64 0)).set 2 (Value.string ⟨#[]⟩)).set 3 (Value.string ⟨#[]⟩)).set 4 (Value.bool false))
     have e0 : _ = some (Value.slice none 0 0) := hZ.out.k.cell 0
     have e1 : _ = some (Value.int .i64 0) := hZ.out.k.cell 1
     have e2 : _ = some (Value.string ⟨#[]⟩) := hZ.out.k.cell 2
     have e3 : _ = some (Value.string ⟨#[]⟩) := hZ.out.k.cell 3
     have e4 : _ = some (Value.bool false) := hZ.out.k.cell 4
     (try simp only [Exit.inBlock, Exit.then])
     refine bodyPost_ret (v := .tuple #[.agg #[(Value.slice none 0 0), (Value.int .i64 0), (Value.string ⟨#[]⟩), (Value.string ⟨#[]⟩), (Value.bool false)], .int .i64 19]) (by simp [results, Tryz.results28, go_sem, e0, e1, e2, e3, e4]) rfl ?_
     obtain rfl := HQ.out
     exact ⟨none, 0, φ3, rfl, hZ.out.inv, SlV.empty φ3⟩
  ·have hkn : nm = k := by omega
   subst hkn
   have hemz := hem
   obtain ⟨hab, hq2, hq3, hq4⟩ := RkS.mk3 hS.out #[.slice none 0 0, .int .i64 0, .string ⟨#[]⟩, .string ⟨#[]⟩, .bool false]
   have A5 := Hh hq2
   have U5 := Hh hq3
   have HAB := Hh hab
   have HN4 := Hh hq4
   clear hab hq2 hq3 hq4 hS
   go_upto_region 20 with fail
   generalize wr.alloc (.cells #[.slice none 0 0, .int .i64 0, .string ⟨#[]⟩, .string ⟨#[]⟩, .bool false] 44) = wt at *
   generalize wr.heap.size = b14 at *
   have hrow := Hh (RowB.own2 A5.out.o hrn0 (fun j hj => (hX0.out j hj).mono hle.out))
   go_upto_region 21 with (go_at_call 73; (with_reducible refine (HDi.out _ _ _ _ _ A5.out.r.inv.fz A5.out.r.inv.le hrow.out).mono ?_); rintro en w8 ⟨v8, φ8, rfl, hi8, hv8⟩; obtain ⟨g1, n8, m8, k1, k2, a1, c1, a2, c2, rfl, _⟩ := hv8.open; have A8 := Hh (A5.out.call hi8); have U8 := Hh (U5.out.call hi8); have V8 := Hh hv8; have L8 := Hh (hle.out.trans hi8.le); clear hi8 hv8)
   have T8 := Hh (RkS.mk4 A8.out U8.out HN4.out HAB.out #[.bool g1, .slice a1 k1 c1, .slice a2 k2 c2])
   have X8 : Hid (∀ j, j < n → FrX φ8 (rs0.getD j raw0).v ((rkW P mm l n 0).getD j 0) (N * N) N) := Hh (fun j hj => (hX0.out j hj).mono L8.out)
   have L78 := Hh (L7.out.trans L8.out)
   clear A5 U5 A8 U8 hrow hle HAB HN4
   generalize w8.alloc (.cells #[.bool g1, .slice a1 k1 c1, .slice a2 k2 c2] 36) = wb at *
   generalize w8.heap.size = b15 at *
   go_wp2
   go_loopw [] (fun wr => ∃ (t : Nat) (φ' : Phi) (rs : List Raw3) (g1 : Bool) (a1 : Option Addr) (k1 c1 : Nat) (a2 : Option Addr) (k2 c2 : Nat), t ≤ R ∧ Hid (φ5.le φ') ∧ Hid (∀ u, u < t → decide (e < dsM (rkW P mm l n u) mm l n nm) = true) ∧ Hid (rs.length = n) ∧ Hid (RkS 44 36 w φ φ' b6 #[.slice none 0 0, .int .i64 0, .string ⟨#[]⟩, .string ⟨#[]⟩, .bool false] b14 #[.slice none 0 0, .int .i64 (t : Int), .string ⟨#[]⟩, .string ⟨#[]⟩, .bool false] b15 #[.bool g1, .slice a1 k1 c1, .slice a2 k2 c2] aw cw rs wr) ∧ Hid (∀ j, j < n → FrX φ' (rs.getD j raw0).v ((rkW P mm l n t).getD j 0) (N * N) N) ∧ Hid (FrX φ' (.agg #[.bool g1, .slice a1 k1 c1, .slice a2 k2 c2]) (dsM (rkW P mm l n t) mm l n nm) ND DD)) (fun wr => R - rndW wr b14)
   case atStart => exact ⟨0, φ8, rs0, g1, a1, k1, c1, a2, k2, c2, Nat.zero_le _, L78, Hh (fun u hu => absurd hu (Nat.not_lt_zero u)), hrn0, T8, X8, V8⟩
   case round =>
    clear T8 X8 V8 L78 hX0
    rename World => wo
    obtain ⟨t, φ', rs, g1, a1, k1, c1, a2, k2, c2, htR, hle, hgs, hrn, hS, hX, hV⟩ := hrel
    have hbr1 := Hh (fun (ψ : Phi) (W : World) (hl : φ5.le ψ) (hf : Fz ψ W) => box_cell EB.out ((L5.out.trans hl)) hf 1)
    have y0 : wo.cell? ⟨b14, 1, none⟩ = some (.int .i64 (t : Int)) := hS.out.u.k.cell 1
    have hrw : Hid (rndW wo b14 = t) := Hh (rndW_eq y0)
    have y1 : wo.cell? ⟨br, 1, none⟩ = some (.int .i64 (R : Int)) := hbr1.out φ' wo hle.out hS.out.r.inv.fz
    by_cases htl : t < R
    ·have htli : (t : Int) < (R : Int) := by omega
     have y2 : wo.cell? ⟨b15, 0, none⟩ = some (.bool g1) := hS.out.d.k.cell 0
     have y3 : wo.cell? ⟨b15, 1, none⟩ = some (.slice a1 k1 c1) := hS.out.d.k.cell 1
     have y4 : wo.cell? ⟨b15, 2, none⟩ = some (.slice a2 k2 c2) := hS.out.d.k.cell 2
     have y5 : wo.cell? ⟨b10, 0, none⟩ = some (.bool g0) := box_cell EE.out hle.out hS.out.r.inv.fz 0
     have y6 : wo.cell? ⟨b10, 1, none⟩ = some (.slice a0 k0 c0) := box_cell EE.out hle.out hS.out.r.inv.fz 1
     have y7 : wo.cell? ⟨b10, 2, none⟩ = some (.slice a0' k0' c0') := box_cell EE.out hle.out hS.out.r.inv.fz 2
     obtain ⟨q, hq⟩ : ∃ q, Hid (cmpQ (dsM (rkW P mm l n t) mm l n nm) e = q) := ⟨_, Hh rfl⟩
     have hqp : 0 < q ↔ e < dsM (rkW P mm l n t) mm l n nm := by rw [← hq.out]; exact cmpQ_gt
     have LRr := Hh φ'.le_refl
     by_cases hq0 : 0 < q
     ·have hg1 : Hid (decide (e < dsM (rkW P mm l n t) mm l n nm) = true) := Hh (decide_eq_true (hqp.1 hq0))
      have hgs2 : Hid (∀ u, u < t + 1 → decide (e < dsM (rkW P mm l n u) mm l n nm) = true) := Hh (fun u hu => by
       by_cases e : u = t
       ·subst e; exact hg1.out
       ·exact hgs.out u (by omega))
      clear hqp
      go_upto_region 22 with (go_at_call 11; (with_reducible refine (ROrder_P (RkS.sta _ _ _ _ _ _ _ _ _ _ _ _ _) hD hM hV LRr VE hle HBE hq hS).mono ?_); rintro en w9 ⟨φ9, rfl, S9, L9⟩)
      have X9 : Hid (∀ j, j < n → FrX φ9 (rs.getD j raw0).v ((rkP P mm l n (rkW P mm l n t) 0).getD j 0) (N * N) N) := Hh (fun j hj => (hX.out j hj).mono L9.out)
      have hle9 := Hh (hle.out.trans L9.out)
      clear y0 y1 y2 y3 y4 y5 y6 y7 hq0 hX hV hS hle
      go_wp2
      go_loopw [90] (fun iv wr => ∃ (i : Nat) (φ7 : Phi) (rs : List Raw3), i ≤ nm ∧ iv = .int .i64 (i : Int) ∧ Hid (φ9.le φ7) ∧ Hid (rs.length = n) ∧ Hid (RkS 44 36 w φ φ7 b6 #[.slice none 0 0, .int .i64 0, .string ⟨#[]⟩, .string ⟨#[]⟩, .bool false] b14 #[.slice none 0 0, .int .i64 (t : Int), .string ⟨#[]⟩, .string ⟨#[]⟩, .bool false] b15 #[.bool g1, .slice a1 k1 c1, .slice a2 k2 c2] aw cw rs wr) ∧ Hid (∀ j, j < n → FrX φ7 (rs.getD j raw0).v ((rkP P mm l n (rkW P mm l n t) i).getD j 0) (N * N) N)) (fun iv _ => nm - (intOf iv).toNat)
      case atStart => exact ⟨0, φ9, rs, Nat.zero_le _, rfl, Hh φ9.le_refl, hrn, S9, X9⟩
      case round =>
       clear S9 X9 hrn rs
       obtain ⟨i, φ7, rs, hi, rfl, hle7, hrn, hS, hX⟩ := hrel
       by_cases hil : i < nm
       ·have hili : (i : Int) < (nm : Int) := by omega
        obtain ⟨bm, om, hbm, fm⟩ := HSM.out.mgnsD hnm hil
        obtain ⟨ar, cr, sr, f1⟩ := fm i hil
        obtain ⟨d0, d1⟩ := f1 wr (hS.out.r.inv.fz.sub hS.out.r.inv.le)
        obtain ⟨nt, hnt9⟩ : ∃ x, Hid ((mm.getD i mgn0).2.length = x) := ⟨_, Hh rfl⟩
        rw [hnt9.out] at d1
        have hnt : nt ≤ 40 := by rw [← hnt9.out]; exact hnt40.out i hil
        have hci := Hh (hcel.out i hil)
        rw [hnt9.out] at hci
        obtain ⟨ws, hws⟩ : ∃ x, rkP P mm l n (rkW P mm l n t) i = x := ⟨_, rfl⟩
        have hwnn : Hid (∀ j, j < n → 0 ≤ ws.getD j 0) := Hh (by rw [← hws]; exact hPnn.out t i hi)
        have hnxt : Hid (rkP P mm l n (rkW P mm l n t) (i + 1) = fitL (rndQ P) ws l i (mm.getD i mgn0).2 n n) := Hh (by rw [← hws]; rfl)
        rw [hws] at hX
        have hsu := Hh (HSU.out i hil (mm.getD i mgn0).1 ar cr nt hnt9 ws)
        have hTk := Hh (hT.out i hil)
        have hTBi := Hh (hTB.out i hil)
        obtain ⟨T, hTT⟩ : ∃ T, (mm.getD i mgn0).2 = T := ⟨_, rfl⟩
        rw [hTT] at hnt9 hTk sr hnxt hTBi
        generalize (mm.getD i mgn0).1 = nk at *
        cases hbm
        obtain ⟨φp, lp, ip, ep⟩ := (Inv.start hS.out.r.inv.fz).frz (.cells #[.string nk, .slice ar nt cr] 30)
        have hS1 := Hh (hS.out.call ip)
        have LP := Hh (hle7.out.trans lp)
        have EP := Hh ep
        have hX1 : Hid (∀ j, j < n → FrX φp (rs.getD j raw0).v (ws.getD j 0) (N * N) N) := Hh (fun j hj => (hX.out j hj).mono lp)
        have SR := Hh (sr.mono hS1.out.r.inv.le)
        have hsl : Hid (((celR ws l i nt n).map (Rx.mk (N := NB) (D := DB))).length = nt) := Hh (by simp [celR])
        clear fm f1 hTT ip ep lp hS hle7 hX sr hws
        go_upto_region 25 with fail
        generalize wr.alloc (.cells #[.string nk, .slice ar nt cr] 30) = wz at *
        generalize wr.heap.size = b17 at *
        clear d0 d1
        have hrow := Hh (RowB.own2 hS1.out.o hrn hX1.out)
        have x0 : wz.cell? ⟨b17, 0, none⟩ = some (.string nk) := box_cell EP.out φp.le_refl hS1.out.r.inv.fz 0
        have x1 : wz.cell? ⟨b17, 1, none⟩ = some (.slice ar nt cr) := box_cell EP.out φp.le_refl hS1.out.r.inv.fz 1
        go_upto_region 26 with (go_at_call 55; (with_reducible refine (hsu.out _ _ _ _ hS1.out.r.inv.fz hS1.out.r.inv.le hrow.out).mono ?_); rintro en w3 ⟨a3, c3, φ3, rfl, hi3, s3⟩; rw [hsl.out]; have S3 := Hh (hS1.out.call hi3); have SS3 := Hh s3; have L3 := Hh hi3.le; clear hi3 s3)
        have EP3 := Hh (L3.out _ _ EP.out)
        have SR3 := Hh (SR.out.mono L3.out)
        have X3 : Hid (∀ j, j < n → FrX φ3 (rs.getD j raw0).v (if j < 0 then (fitL (rndQ P) ws l i T n n).getD j 0 else ws.getD j 0) (N * N) N) := Hh (fun j hj => by rw [if_neg (Nat.not_lt_zero j)]; exact (hX1.out j hj).mono L3.out)
        have LP3 := Hh (LP.out.trans L3.out)
        clear x0 x1 hrow hS1 hX1 EP SR LP L3 hsu
        go_wp2
        go_loopw [102] (fun iv wr => ∃ (k : Nat) (φ4 : Phi) (rs : List Raw3), k ≤ n ∧ iv = .int .i64 (k : Int) ∧ Hid (φ3.le φ4) ∧ Hid (rs.length = n) ∧ Hid (RkS 44 36 w φ φ4 b6 #[.slice none 0 0, .int .i64 0, .string ⟨#[]⟩, .string ⟨#[]⟩, .bool false] b14 #[.slice none 0 0, .int .i64 (t : Int), .string ⟨#[]⟩, .string ⟨#[]⟩, .bool false] b15 #[.bool g1, .slice a1 k1 c1, .slice a2 k2 c2] aw cw rs wr) ∧ Hid (∀ j, j < n → FrX φ4 (rs.getD j raw0).v (if j < k then (fitL (rndQ P) ws l i T n n).getD j 0 else ws.getD j 0) (N * N) N)) (fun iv _ => n - (intOf iv).toNat)
        case atStart => exact ⟨0, φ3, rs, Nat.zero_le _, rfl, Hh φ3.le_refl, hrn, S3, X3⟩
        case round =>
         clear S3 X3 hrn rs
         obtain ⟨k, φ4', rs, hk, rfl, hle4, hrn, hS, hX⟩ := hrel
         by_cases hkl : k < n
         ·have hkli : (k : Int) < (n : Int) := by omega
          obtain ⟨b, off, hbo, fp⟩ := HSL.out.psnsD hn hkl
          obtain ⟨ac, cc, sc, f2⟩ := fp k hkl
          obtain ⟨d0, d1, d2, d3, d4, d5⟩ := f2 wr (hS.out.r.inv.fz.sub hS.out.r.inv.le)
          obtain ⟨hml', ct, hct, hce⟩ := hci.out k hkl
          have hce2 : Hid (celI l i k = (ct : Int)) := Hh hce
          unfold celI at hce
          generalize l.getD k psn0 = pp at *
          obtain ⟨⟨s2, t2⟩, cs, x, y, z⟩ := pp
          dsimp only at d0 d1 d2 d3 d4 d5 sc hce hml'
          obtain ⟨mc, hmc⟩ : ∃ m, cs.length = m := ⟨_, rfl⟩
          rw [hmc] at d2 hml'
          have hcn := Hh hmc
          have hmcc : mc ≤ 9223372036854775807 := by have h1 := sc.capn; have h2 := sc.capm; rw [hmc] at h1; unfold maxLen at h2; omega
          obtain ⟨bc, oc, rfl, fc⟩ := sc.intsD hcn hml'
          have FC := Hh (fc i hml')
          rw [hce] at FC
          cases hbo
          obtain ⟨bs, os_, rfl, fs⟩ := SS3.out.rxD hsl hct
          obtain ⟨g4, a4, k4, c4, a5, k5, c5, hx4, f4⟩ := fs ct hct
          rw [rx_getD, celR_get hct] at hx4
          have F4 := Hh f4
          obtain ⟨bt, ot, rfl, ft⟩ := SR3.out.rtisD hnt9 hct
          have FT := Hh (ft ct hct)
          have hm : T.getD ct rti0 ∈ T := by rw [getD_elem0 _ _ _ (by rw [hnt9.out]; exact hct)]; exact List.getElem_mem _
          have hg2 := hTk.out _ hm
          have htq : ttQ T ct = ratX (T.getD ct rti0).1 (T.getD ct rti0).2 := rfl
          generalize T.getD ct rti0 = pp at *
          obtain ⟨s3, t3⟩ := pp
          dsimp only at hg2 htq FT
          have hrf := Hh (ratF_ok (shoF_ok hg2).1)
          have hbd : Hid (dV (bodyB s3).data.toList ≤ N ∧ dV t3.data.toList ≤ N) := Hh (by rw [hN.out]; exact sho_lt hg2)
          have hxt : Hid (ratX s3 t3 = ttQ T ct) := Hh htq.symm
          obtain ⟨φp, lp, ip, ep⟩ := (Inv.start hS.out.r.inv.fz).frz (.cells #[.string s2, .string t2, .slice (some ⟨bc, oc, none⟩) mc cc, .int .i64 x, .int .i64 y, .int .i64 z] 76)
          have hS1 := Hh (hS.out.call ip)
          have LP9 := Hh (hle4.out.trans lp)
          have EPp := Hh ep
          have hX1 : Hid (∀ j, j < n → FrX φp (rs.getD j raw0).v (if j < k then (fitL (rndQ P) ws l i T n n).getD j 0 else ws.getD j 0) (N * N) N) := Hh (fun j hj => (hX.out j hj).mono lp)
          have hmii : (i : Int) < (mc : Int) := by omega
          have hcti : (ct : Int) < (nt : Int) := by omega
          have d9 : (wr.alloc (.cells #[.string s2, .string t2, .slice (some ⟨bc, oc, none⟩) mc cc, .int .i64 x, .int .i64 y, .int .i64 z] 76)).cell? ⟨bc, oc + i, none⟩ = some (.int .i64 (ct : Int)) := (FC.out _ (hS1.out.r.inv.fz.sub hS1.out.r.inv.le)).2
          obtain ⟨sk, hsk⟩ : ∃ s, Hid (celQ (fun j => ws.getD j 0) l i (ct : Int) n = s) := ⟨_, Hh rfl⟩
          rw [hsk.out] at hx4
          have HX4 := Hh (hx4.mono LP9.out)
          have hfx : Hid ((fitL (rndQ P) ws l i T n n).getD k 0 = if sk = 0 then ws.getD k 0 else rndQ P (ws.getD k 0 * ttQ T ct / sk)) := Hh (by rw [fitL_get hkl]; unfold fitX; rw [hce2.out, hsk.out, Int.toNat_natCast])
          have hbx0 := Hh (fun (h : sk ≠ 0) => fit_bd hwnn.out (hTBi.out ct) hkl hce2.out (by rw [hsk.out]; exact h))
          rw [hsk.out] at hbx0
          clear fp f2 hmc fc ip ep lp hS hce hle4 fs f4 ft hx4 hm hg2 htq hX
          go_upto_region 29 with fail
          generalize wr.alloc (.cells #[.string s2, .string t2, .slice (some ⟨bc, oc, none⟩) mc cc, .int .i64 x, .int .i64 y, .int .i64 z] 76) = wz at *
          generalize wr.heap.size = b20 at *
          clear d0 d1 d2 d3 d4 d5
          have x2 : wz.cell? ⟨b20, 2, none⟩ = some (.slice (some ⟨bc, oc, none⟩) mc cc) := box_cell EPp.out φp.le_refl hS1.out.r.inv.fz 2
          go_upto_region 30 with fail
          clear x2 d9
          obtain ⟨y0, y1, y2⟩ := F4.out wz (hS1.out.r.inv.fz.sub LP9.out)
          have LRp := Hh φp.le_refl
          obtain ⟨zb, hzb⟩ : ∃ z, Hid (decide (sk = 0) = z) := ⟨_, Hh rfl⟩
          cases zb
          ·have hsk0 : Hid (sk ≠ 0) := Hh (of_decide_eq_false hzb.out)
           have hxb : Hid (0 ≤ ws.getD k 0 * ttQ T ct / sk ∧ ws.getD k 0 * ttQ T ct / sk ≤ ((N : Int) : Rat)) := Hh (by
            have h := hbx0.out hsk0.out
            rw [Rat.div_def, ← Rat.mul_assoc, ← Rat.div_def] at h
            exact h)
           have hRn : Hid (∀ ψ : Phi, φp.le ψ → ∀ y : Raw3, FrX ψ y.v (rndQ P (ws.getD k 0 * ttQ T ct / sk)) (N * N) N → ∀ j, j < n → FrX ψ ((rs.set k y).getD j raw0).v (if j < k + 1 then (fitL (rndQ P) ws l i T n n).getD j 0 else ws.getD j 0) (N * N) N) := Hh (fun ψ hl y hy j hj => by
            by_cases e : j = k
            ·subst e
             rw [raw_setS (by rw [hrn.out]; exact hkl), if_pos (Nat.lt_succ_self j), hfx.out, if_neg hsk0.out]
             exact hy
            ·rw [raw_setN e]
             have := (hX1.out j hj).mono hl
             by_cases e2 : j < k
             ·rw [if_pos e2] at this; rw [if_pos (by omega)]; exact this
             ·rw [if_neg e2] at this; rw [if_neg (by omega)]; exact this)
           go_upto_region 31 with (go_at_call 39; (with_reducible refine (RZero_P (RkS.sta _ _ _ _ _ _ _ _ _ _ _ _ _) HX4 LRp hzb hS1).mono ?_); rintro en w4 ⟨rfl, S4⟩)
           clear y0 y1 y2
           have SDd : Hid (RkS 44 36 w φ φp b6 #[.slice none 0 0, .int .i64 0, .string ⟨#[]⟩, .string ⟨#[]⟩, .bool false] b14 #[.slice none 0 0, .int .i64 (t : Int), .string ⟨#[]⟩, .string ⟨#[]⟩, .bool false] b15 #[.bool g1, .slice a1 k1 c1, .slice a2 k2 c2] aw cw rs w4.drew) := Hh (S4.out.callB (bdrewN (Below.refl _ w4) 1))
           have HVk : Hid (FrX φp (rs.getD k raw0).v (ws.getD k 0) (N * N) N) := Hh (by have := hX1.out k hkl; rw [if_neg (Nat.lt_irrefl k)] at this; exact this)
           obtain ⟨g, hg9, -, -, -, o0, o1, o2, -, -⟩ := SDd.out.o.rawD hrn hkl
           subst hg9
           obtain ⟨ry, hry⟩ : ∃ y, Hid (rs.getD k raw0 = y) := ⟨_, Hh rfl⟩
           rw [hry.out] at o0 o1 o2 HVk
           obtain ⟨gz, az, kz, cz, az', kz', cz'⟩ := ry
           dsimp only at o0 o1 o2
           have HVk : Hid (FrX φp (.agg #[.bool gz, .slice az kz cz, .slice az' kz' cz']) (ws.getD k 0) (N * N) N) := HVk
           have hSt := RkS.sta 44 36 w φ b6 #[.slice none 0 0, .int .i64 0, .string ⟨#[]⟩, .string ⟨#[]⟩, .bool false] b14 #[.slice none 0 0, .int .i64 (t : Int), .string ⟨#[]⟩, .string ⟨#[]⟩, .bool false] b15 #[.bool g1, .slice a1 k1 c1, .slice a2 k2 c2] (some ⟨g, 0, none⟩) cw rs
           have HBT := hBT0
           have hLbr := Hh (L5.out.trans (hle9.out.trans (LP3.out.trans LP9.out)))
           have hfz := Hh (fun (ψ : Phi) (W : World) (hs : Inv w.heap.size w φ ψ W) (hl : Hid (φp.le ψ)) => (⟨box_cell EP3.out (LP9.out.trans hl.out) hs.fz 1, (FT.out W (hs.fz.sub (LP9.out.trans hl.out))).1, (FT.out W (hs.fz.sub (LP9.out.trans hl.out))).2, (F4.out W (hs.fz.sub (LP9.out.trans hl.out))).1, (F4.out W (hs.fz.sub (LP9.out.trans hl.out))).2.1, (F4.out W (hs.fz.sub (LP9.out.trans hl.out))).2.2, box_cell EB.out (hLbr.out.trans hl.out) hs.fz 0⟩ : W.cell? ⟨b17, 1, none⟩ = some (.slice (some ⟨bt, ot, none⟩) nt cr) ∧ W.cell? ⟨bt, ot + ct * 2, none⟩ = some (.string s3) ∧ W.cell? ⟨bt, ot + ct * 2 + 1, none⟩ = some (.string t3) ∧ W.cell? ⟨bs, os_ + ct * 3, none⟩ = some (.bool g4) ∧ W.cell? ⟨bs, os_ + ct * 3 + 1, none⟩ = some (.slice a4 k4 c4) ∧ W.cell? ⟨bs, os_ + ct * 3 + 2, none⟩ = some (.slice a5 k5 c5) ∧ W.cell? ⟨br, 0, none⟩ = some (.int .i64 (p : Int))))
           have hs0 := hfz.out φp w4.drew SDd.out.r.inv LRp
           apply wp_region_held_drew (S := fun W => W.cell? ⟨b17, 1, none⟩ = some (.slice (some ⟨bt, ot, none⟩) nt cr) ∧ W.cell? ⟨bt, ot + ct * 2, none⟩ = some (.string s3) ∧ W.cell? ⟨bt, ot + ct * 2 + 1, none⟩ = some (.string t3) ∧ W.cell? ⟨bs, os_ + ct * 3, none⟩ = some (.bool g4) ∧ W.cell? ⟨bs, os_ + ct * 3 + 1, none⟩ = some (.slice a4 k4 c4) ∧ W.cell? ⟨bs, os_ + ct * 3 + 2, none⟩ = some (.slice a5 k5 c5) ∧ W.cell? ⟨br, 0, none⟩ = some (.int .i64 (p : Int))) (by kernel_rfl)
           case hS => exact hs0
           case h =>
            intro hHeld
            refine' wpAnyH_take (i := 0) ?hi (by kernel_rfl) (by kernel_rfl) (by kernel_rfl) ?hQ (Or.inl ⟨?hw, ?hy⟩) (by assumption) ?rest
            case hi => exact gt0.trans rfl
            case hQ => exact fun _ _ _ h => h
            case hw => rfl
            case hy => ((intro w hSw; (try dsimp only at hSw); go_simp) <;> with_reducible rfl)
            case rest =>
            try simp only [Act.put, List.setIfInBounds_toArray, sc0, sc1]
            refine' wpAnyH_take (i := 1) ?hi (by kernel_rfl) (by kernel_rfl) (by kernel_rfl) ?hQ (Or.inl ⟨?hw, ?hy⟩) (by assumption) ?rest
            case hi => exact gt0.trans rfl
            case hQ => exact fun _ _ _ h => h
            case hw => rfl
            case hy => ((intro w hSw; (try dsimp only at hSw); go_simp) <;> with_reducible rfl)
            case rest =>
            try simp only [Act.put, List.setIfInBounds_toArray, sc0, sc1]
            refine' wpAnyH_take (i := 2) ?hi (by kernel_rfl) (by kernel_rfl) (by kernel_rfl) ?hQ (Or.inl ⟨?hw, ?hy⟩) (by assumption) ?rest
            case hi => exact gt0.trans rfl
            case hQ => exact fun _ _ _ h => h
            case hw => rfl
            case hy => ((intro w hSw; (try dsimp only at hSw); go_simp) <;> with_reducible rfl)
            case rest =>
            try simp only [Act.put, List.setIfInBounds_toArray, sc0, sc1]
            refine' wpAnyH_take (i := 3) ?hi (by kernel_rfl) (by kernel_rfl) (by kernel_rfl) ?hQ (Or.inl ⟨?hw, ?hy⟩) (by assumption) ?rest
            case hi => exact gt0.trans rfl
            case hQ => exact fun _ _ _ h => h
            case hw => rfl
            case hy => ((intro w hSw; (try dsimp only at hSw); go_simp) <;> with_reducible rfl)
            case rest =>
            try simp only [Act.put, List.setIfInBounds_toArray, sc0, sc1]
            refine' wpAnyH_take (i := 4) ?hi (by kernel_rfl) (by kernel_rfl) (by kernel_rfl) ?hQ (Or.inl ⟨?hw, ?hy⟩) (by assumption) ?rest
            case hi => exact gt0.trans rfl
            case hQ => exact fun _ _ _ h => h
            case hw => rfl
            case hy => ((intro w hSw; (try dsimp only at hSw); go_simp) <;> with_reducible rfl)
            case rest =>
            try simp only [Act.put, List.setIfInBounds_toArray, sc0, sc1]
            refine' wpAnyH_take (i := 6) ?hi (by kernel_rfl) (by kernel_rfl) (by kernel_rfl) ?hQ (Or.inl ⟨?hw, ?hy⟩) (by assumption) ?rest
            case hi => exact gt0.trans rfl
            case hQ => exact fun _ _ _ h => h
            case hw => rfl
            case hy => ((intro w hSw; (try dsimp only at hSw); go_simp) <;> with_reducible rfl)
            case rest =>
            try simp only [Act.put, List.setIfInBounds_toArray, sc0, sc1]
            refine' wpAnyH_take (i := 7) ?hi (by kernel_rfl) (by kernel_rfl) (by kernel_rfl) ?hQ (Or.inl ⟨?hw, ?hy⟩) (by assumption) ?rest
            case hi => exact gt0.trans rfl
            case hQ => exact fun _ _ _ h => h
            case hw => rfl
            case hy => ((intro w hSw; (try dsimp only at hSw); go_simp) <;> with_reducible rfl)
            case rest =>
            try simp only [Act.put, List.setIfInBounds_toArray, sc0, sc1]
            refine' wpAnyH_take (i := 8) ?hi (by kernel_rfl) (by kernel_rfl) (by kernel_rfl) ?hQ (Or.inl ⟨?hw, ?hy⟩) (by assumption) ?rest
            case hi => exact gt0.trans rfl
            case hQ => exact fun _ _ _ h => h
            case hw => rfl
            case hy => ((intro w hSw; (try dsimp only at hSw); go_simp) <;> with_reducible rfl)
            case rest =>
            try simp only [Act.put, List.setIfInBounds_toArray, sc0, sc1]
            refine' wpAnyH_take (i := 9) ?hi (by kernel_rfl) (by kernel_rfl) (by kernel_rfl) ?hQ (Or.inl ⟨?hw, ?hy⟩) (by assumption) ?rest
            case hi => exact gt0.trans rfl
            case hQ => exact fun _ _ _ h => h
            case hw => rfl
            case hy => ((intro w hSw; (try dsimp only at hSw); go_simp) <;> with_reducible rfl)
            case rest =>
            try simp only [Act.put, List.setIfInBounds_toArray, sc0, sc1]
            refine' wpAnyH_take (i := 10) ?hi (by kernel_rfl) (by kernel_rfl) (by kernel_rfl) ?hQ (Or.inl ⟨?hw, ?hy⟩) (by assumption) ?rest
            case hi => exact gt0.trans rfl
            case hQ => exact fun _ _ _ h => h
            case hw => rfl
            case hy => ((intro w hSw; (try dsimp only at hSw); go_simp) <;> with_reducible rfl)
            case rest =>
            try simp only [Act.put, List.setIfInBounds_toArray, sc0, sc1]
            refine' wpAnyH_take (i := 13) ?hi (by kernel_rfl) (by kernel_rfl) (by kernel_rfl) ?hQ (Or.inl ⟨?hw, ?hy⟩) (by assumption) ?rest
            case hi => exact gt0.trans rfl
            case hQ => exact fun _ _ _ h => h
            case hw => rfl
            case hy => ((intro w hSw; (try dsimp only at hSw); go_simp) <;> with_reducible rfl)
            case rest =>
            try simp only [Act.put, List.setIfInBounds_toArray, sc0, sc1]
            refine' wpAnyH_take (i := 14) ?hi (by kernel_rfl) (by kernel_rfl) (by kernel_rfl) ?hQ (Or.inl ⟨?hw, ?hy⟩) (by assumption) ?rest
            case hi => exact gt0.trans rfl
            case hQ => exact fun _ _ _ h => h
            case hw => rfl
            case hy => ((intro w hSw; (try dsimp only at hSw); go_simp) <;> with_reducible rfl)
            case rest =>
            try simp only [Act.put, List.setIfInBounds_toArray, sc0, sc1]
            refine' wpAnyH_take (i := 15) ?hi (by kernel_rfl) (by kernel_rfl) (by kernel_rfl) ?hQ (Or.inl ⟨?hw, ?hy⟩) (by assumption) ?rest
            case hi => exact gt0.trans rfl
            case hQ => exact fun _ _ _ h => h
            case hw => rfl
            case hy => ((intro w hSw; (try dsimp only at hSw); go_simp) <;> with_reducible rfl)
            case rest =>
            try simp only [Act.put, List.setIfInBounds_toArray, sc0, sc1]
            refine' wpAnyH_take (i := 16) ?hi (by kernel_rfl) (by kernel_rfl) (by kernel_rfl) ?hQ (Or.inl ⟨?hw, ?hy⟩) (by assumption) ?rest
            case hi => exact gt0.trans rfl
            case hQ => exact fun _ _ _ h => h
            case hw => rfl
            case hy => ((intro w hSw; (try dsimp only at hSw); go_simp) <;> with_reducible rfl)
            case rest =>
            try simp only [Act.put, List.setIfInBounds_toArray, sc0, sc1]
            refine' wpAnyH_take (i := 18) ?hi (by kernel_rfl) (by kernel_rfl) (by kernel_rfl) ?hQ (Or.inl ⟨?hw, ?hy⟩) (by assumption) ?rest
            case hi => exact gt0.trans rfl
            case hQ => exact fun _ _ _ h => h
            case hw => rfl
            case hy => ((intro w hSw; (try dsimp only at hSw); go_simp) <;> with_reducible rfl)
            case rest =>
            try simp only [Act.put, List.setIfInBounds_toArray, sc0, sc1]
            refine' wpAnyH_take (i := 19) ?hi (by kernel_rfl) (by kernel_rfl) (by kernel_rfl) ?hQ (Or.inl ⟨?hw, ?hy⟩) (by assumption) ?rest
            case hi => exact gt0.trans rfl
            case hQ => exact fun _ _ _ h => h
            case hw => rfl
            case hy => ((intro w hSw; (try dsimp only at hSw); go_simp) <;> with_reducible rfl)
            case rest =>
            try simp only [Act.put, List.setIfInBounds_toArray, sc0, sc1]
            refine wpAnyH_ready (rs := [5, 11]) (by kernel_rfl) (by simp) ?_
            refine' AllReadyH.cons ?ho (fun K hK => ?st) (AllReadyH.cons ?ho2 (fun K hK => ?st2) AllReadyH.nil)
            case ho => exact gt0.trans rfl
            case ho2 => exact gt0.trans rfl
            case st =>
             go_simp
             refine hK.out _ _ ?hSS (fun hHeld => ?hRR)
             case hSS => exact hs0
             case hRR =>
             clear hK K
             try simp only [Act.put, List.setIfInBounds_toArray, sc0, sc1]
             refine wpAnyH_ready (rs := [11]) (by kernel_rfl) (by simp) ?_
             refine' AllReadyH.cons ?ho (fun K hK => ?st) AllReadyH.nil
             case ho => exact gt0.trans rfl
             case st =>
             go_simp
             go_at_call 12
             (with_reducible refine (RFracOf_P hSt hrf hxt hbd SDd).mono ?_)
             rintro en wA ⟨gA, aA, kA, cA, aA', kA', cA', φA, rfl, SA, LA, VA⟩
             have hsA := hfz.out φA wA SA.out.r.inv LA
             dsimp only
             refine hK.out _ _ ?hSS (fun hHeld => ?hRR)
             case hSS => exact hsA
             case hRR =>
             clear hK K
             try simp only [Act.put, List.setIfInBounds_toArray, sc0, sc1]
             refine wpAnyH_ready (rs := [12]) (by kernel_rfl) (by simp) ?_
             refine' AllReadyH.cons ?ho (fun K hK => ?st) AllReadyH.nil
             case ho => exact gt0.trans rfl
             case st =>
             go_simp
             go_at_call 70
             (with_reducible refine (RTimes_P hSt hD hM HVk LA VA (Hh φA.le_refl) HBT hreft SA).mono ?_)
             rintro en wB ⟨gB, aB, kB, cB, aB', kB', cB', φB, rfl, SB, LB0, VB⟩
             have LB := Hh (LA.out.trans LB0.out)
             have hsB := hfz.out φB wB SB.out.r.inv LB
             dsimp only
             refine hK.out _ _ ?hSS (fun hHeld => ?hRR)
             case hSS => exact hsB
             case hRR =>
             clear hK K
             try simp only [Act.put, List.setIfInBounds_toArray, sc0, sc1]
             refine wpAnyH_ready (rs := [17]) (by kernel_rfl) (by simp) ?_
             refine' AllReadyH.cons ?ho (fun K hK => ?st) AllReadyH.nil
             case ho => exact gt0.trans rfl
             case st =>
             go_simp
             go_at_call 71
             (with_reducible refine (ROver_P hSt hD hM VB (Hh φB.le_refl) HX4 LB hsk0 HBO hrefo SB).mono ?_)
             rintro en wC ⟨gC, aC, kC, cC, aC', kC', cC', φC, rfl, SC, LC0, VC⟩
             have LC := Hh (LB.out.trans LC0.out)
             have hsC := hfz.out φC wC SC.out.r.inv LC
             dsimp only
             refine hK.out _ _ ?hSS (fun hHeld => ?hRR)
             case hSS => exact hsC
             case hRR =>
             clear hK K
             try simp only [Act.put, List.setIfInBounds_toArray, sc0, sc1]
             refine wpAnyH_ready (rs := [20]) (by kernel_rfl) (by simp) ?_
             refine' AllReadyH.cons ?ho (fun K hK => ?st) AllReadyH.nil
             case ho => exact gt0.trans rfl
             case st =>
             go_simp
             go_at_call 74
             (with_reducible refine (Near_P hSt hD hM hBB hN1 (by omega) hP hPN hxb SC VC (Hh φC.le_refl)).mono ?_)
             rintro en wD ⟨gD, aD, kD, cD, aD', kD', cD', φD, rfl, SD, LD0, VD⟩
             have LD := Hh (LC.out.trans LD0.out)
             have hsD := hfz.out φD wD SD.out.r.inv LD
             dsimp only
             refine hK.out _ _ ?hSS (fun hHeld => ?hRR)
             case hSS => exact hsD
             case hRR =>
             clear hK K
             try simp only [Act.put, List.setIfInBounds_toArray, sc0, sc1]
             refine' wpAnyH_take (i := 21) ?hi (by kernel_rfl) (by kernel_rfl) (by kernel_rfl) ?hQ (Or.inl ⟨?hw, ?hy⟩) (by assumption) ?rest
             case hi => exact gt0.trans rfl
             case hQ => exact fun _ _ _ h => h
             case hw => rfl
             case hy => ((intro w hSw; (try dsimp only at hSw); go_simp) <;> with_reducible rfl)
             case rest =>
             try simp only [Act.put, List.setIfInBounds_toArray, sc0, sc1]
             obtain ⟨g', hg', -, -, -, e0, e1, e2, ef, -⟩ := SD.out.o.rawD hrn hkl
             cases hg'
             rw [hry.out] at e0 e1 e2
             dsimp only at e0 e1 e2
             have r0 := ef (k * 3)
             have r1 := ef (k * 3 + 1)
             have r2 := ef (k * 3 + 2)
             have HN := Hh (SD.out.setW hrn hkl ⟨gD, aD, kD, cD, aD', kD', cD'⟩)
             refine wpAnyH_ready (rs := [22]) (by kernel_rfl) (by simp) ?_
             refine' AllReadyH.cons ?ho (fun K hK => ?st) AllReadyH.nil
             case ho => exact gt0.trans rfl
             case st =>
             go_simp
             refine hK.out _ _ ?hSS (fun hHeld => ?hRR)
             case hSS => exact hfz.out φD _ HN.out.r.inv LD
             case hRR =>
             clear hK K
             try simp only [Act.put, List.setIfInBounds_toArray, sc0, sc1]
             refine wpAnyH_done (by kernel_rfl) ?_ _
             have HX9 := Hh (hRn.out φD LD.out ⟨gD, aD, kD, cD, aD', kD', cD'⟩ VD.out)
             have L9 := Hh (LP9.out.trans LD.out)
             clear e0 e1 e2 r0 r1 r2 ef hsA hsB hsC hsD hs0 o0 o1 o2
             go_wp2
             go_roundw
             case rel => exact ⟨k + 1, φD, rs.set k ⟨gD, aD, kD, cD, aD', kD', cD'⟩, by omega, by go_num, L9, Hh (by rw [List.length_set, hrn.out]), HN, HX9⟩
             case measure => (simp [intOf] <;> omega)
            case st2 =>
             go_simp
             go_at_call 12
             (with_reducible refine (RFracOf_P hSt hrf hxt hbd SDd).mono ?_)
             rintro en wA ⟨gA, aA, kA, cA, aA', kA', cA', φA, rfl, SA, LA, VA⟩
             have hsA := hfz.out φA wA SA.out.r.inv LA
             dsimp only
             refine hK.out _ _ ?hSS (fun hHeld => ?hRR)
             case hSS => exact hsA
             case hRR =>
             clear hK K
             try simp only [Act.put, List.setIfInBounds_toArray, sc0, sc1]
             obtain ⟨g', hg', -, -, -, w0', w1', w2', -, -⟩ := SA.out.o.rawD hrn hkl
             cases hg'
             rw [hry.out] at w0' w1' w2'
             dsimp only at w0' w1' w2'
             refine wpAnyH_ready (rs := [5]) (by kernel_rfl) (by simp) ?_
             refine' AllReadyH.cons ?ho (fun K hK => ?st) AllReadyH.nil
             case ho => exact gt0.trans rfl
             case st =>
             go_simp
             refine hK.out _ _ ?hSS (fun hHeld => ?hRR)
             case hSS => exact hsA
             case hRR =>
             clear hK K
             try simp only [Act.put, List.setIfInBounds_toArray, sc0, sc1]
             clear w0' w1' w2'
             refine wpAnyH_ready (rs := [12]) (by kernel_rfl) (by simp) ?_
             refine' AllReadyH.cons ?ho (fun K hK => ?st) AllReadyH.nil
             case ho => exact gt0.trans rfl
             case st =>
             go_simp
             go_at_call 70
             (with_reducible refine (RTimes_P hSt hD hM HVk LA VA (Hh φA.le_refl) HBT hreft SA).mono ?_)
             rintro en wB ⟨gB, aB, kB, cB, aB', kB', cB', φB, rfl, SB, LB0, VB⟩
             have LB := Hh (LA.out.trans LB0.out)
             have hsB := hfz.out φB wB SB.out.r.inv LB
             dsimp only
             refine hK.out _ _ ?hSS (fun hHeld => ?hRR)
             case hSS => exact hsB
             case hRR =>
             clear hK K
             try simp only [Act.put, List.setIfInBounds_toArray, sc0, sc1]
             refine wpAnyH_ready (rs := [17]) (by kernel_rfl) (by simp) ?_
             refine' AllReadyH.cons ?ho (fun K hK => ?st) AllReadyH.nil
             case ho => exact gt0.trans rfl
             case st =>
             go_simp
             go_at_call 71
             (with_reducible refine (ROver_P hSt hD hM VB (Hh φB.le_refl) HX4 LB hsk0 HBO hrefo SB).mono ?_)
             rintro en wC ⟨gC, aC, kC, cC, aC', kC', cC', φC, rfl, SC, LC0, VC⟩
             have LC := Hh (LB.out.trans LC0.out)
             have hsC := hfz.out φC wC SC.out.r.inv LC
             dsimp only
             refine hK.out _ _ ?hSS (fun hHeld => ?hRR)
             case hSS => exact hsC
             case hRR =>
             clear hK K
             try simp only [Act.put, List.setIfInBounds_toArray, sc0, sc1]
             refine wpAnyH_ready (rs := [20]) (by kernel_rfl) (by simp) ?_
             refine' AllReadyH.cons ?ho (fun K hK => ?st) AllReadyH.nil
             case ho => exact gt0.trans rfl
             case st =>
             go_simp
             go_at_call 74
             (with_reducible refine (Near_P hSt hD hM hBB hN1 (by omega) hP hPN hxb SC VC (Hh φC.le_refl)).mono ?_)
             rintro en wD ⟨gD, aD, kD, cD, aD', kD', cD', φD, rfl, SD, LD0, VD⟩
             have LD := Hh (LC.out.trans LD0.out)
             have hsD := hfz.out φD wD SD.out.r.inv LD
             dsimp only
             refine hK.out _ _ ?hSS (fun hHeld => ?hRR)
             case hSS => exact hsD
             case hRR =>
             clear hK K
             try simp only [Act.put, List.setIfInBounds_toArray, sc0, sc1]
             refine' wpAnyH_take (i := 21) ?hi (by kernel_rfl) (by kernel_rfl) (by kernel_rfl) ?hQ (Or.inl ⟨?hw, ?hy⟩) (by assumption) ?rest
             case hi => exact gt0.trans rfl
             case hQ => exact fun _ _ _ h => h
             case hw => rfl
             case hy => ((intro w hSw; (try dsimp only at hSw); go_simp) <;> with_reducible rfl)
             case rest =>
             try simp only [Act.put, List.setIfInBounds_toArray, sc0, sc1]
             obtain ⟨g', hg', -, -, -, e0, e1, e2, ef, -⟩ := SD.out.o.rawD hrn hkl
             cases hg'
             rw [hry.out] at e0 e1 e2
             dsimp only at e0 e1 e2
             have r0 := ef (k * 3)
             have r1 := ef (k * 3 + 1)
             have r2 := ef (k * 3 + 2)
             have HN := Hh (SD.out.setW hrn hkl ⟨gD, aD, kD, cD, aD', kD', cD'⟩)
             refine wpAnyH_ready (rs := [22]) (by kernel_rfl) (by simp) ?_
             refine' AllReadyH.cons ?ho (fun K hK => ?st) AllReadyH.nil
             case ho => exact gt0.trans rfl
             case st =>
             go_simp
             refine hK.out _ _ ?hSS (fun hHeld => ?hRR)
             case hSS => exact hfz.out φD _ HN.out.r.inv LD
             case hRR =>
             clear hK K
             try simp only [Act.put, List.setIfInBounds_toArray, sc0, sc1]
             refine wpAnyH_done (by kernel_rfl) ?_ _
             have HX9 := Hh (hRn.out φD LD.out ⟨gD, aD, kD, cD, aD', kD', cD'⟩ VD.out)
             have L9 := Hh (LP9.out.trans LD.out)
             clear e0 e1 e2 r0 r1 r2 ef hsA hsB hsC hsD hs0 o0 o1 o2
             go_wp2
             go_roundw
             case rel => exact ⟨k + 1, φD, rs.set k ⟨gD, aD, kD, cD, aD', kD', cD'⟩, by omega, by go_num, L9, Hh (by rw [List.length_set, hrn.out]), HN, HX9⟩
             case measure => (simp [intOf] <;> omega)
          ·have hsk0 : sk = 0 := of_decide_eq_true hzb.out
           have hX2 : Hid (∀ j, j < n → FrX φp (rs.getD j raw0).v (if j < k + 1 then (fitL (rndQ P) ws l i T n n).getD j 0 else ws.getD j 0) (N * N) N) := Hh (fun j hj => by
            have := hX1.out j hj
            by_cases e : j = k
            ·subst e
             rw [if_neg (Nat.lt_irrefl j)] at this
             rw [if_pos (Nat.lt_succ_self j), hfx.out, if_pos hsk0]
             exact this
            ·by_cases e2 : j < k
             ·rw [if_pos e2] at this; rw [if_pos (by omega)]; exact this
             ·rw [if_neg e2] at this; rw [if_neg (by omega)]; exact this)
           clear hsk0
           go_wp2_with (go_at_call 39; (with_reducible refine (RZero_P (RkS.sta _ _ _ _ _ _ _ _ _ _ _ _ _) HX4 LRp hzb hS1).mono ?_); rintro en w4 ⟨rfl, S4⟩)
           go_roundw
           case rel => exact ⟨k + 1, φp, rs, by omega, by go_num, LP9, hrn, S4, hX2⟩
           case measure => (simp [intOf] <;> omega)
         ·have hkn : n = k := by omega
          subst hkn
          have hX9 : Hid (∀ j, j < n → FrX φ4' (rs.getD j raw0).v ((rkP P mm l n (rkW P mm l n t) (i + 1)).getD j 0) (N * N) N) := Hh (fun j hj => by
           have := hX.out j hj
           rw [if_pos hj] at this
           rw [hnxt.out]
           exact this)
          go_wp2
          go_roundw
          case rel => exact ⟨i + 1, φ4', rs, by omega, by go_num, Hh (LP3.out.trans hle4.out), hrn, hS, hX9⟩
          case measure => (simp [intOf] <;> omega)
       ·have hin : nm = i := by omega
        subst hin
        have y0 : wr.cell? ⟨b14, 1, none⟩ = some (.int .i64 (t : Int)) := hS.out.u.k.cell 1
        have y9 := hS.out.u.k.frz 1
        have htw : IntKind.i64.wrap ((t : Int) + 1) = (t : Int) + 1 := IntWalk.i64_in _ (by omega)
        go_upto_region 35 with fail
        have SU := Hh (hS.out.setU 1 (.int .i64 ((t : Int) + 1)))
        have HX9 : Hid (∀ j, j < n → FrX φ7 (rs.getD j raw0).v ((rkW P mm l n (t + 1)).getD j 0) (N * N) N) := Hh (fun j hj => by
         have := hX.out j hj
         show FrX φ7 (rs.getD j raw0).v ((rkP P mm l n (rkW P mm l n t) mm.length).getD j 0) (N * N) N
         rw [hnm.out]; exact this)
        clear y0 y9 hS hX
        generalize wr.setCell ⟨b14, 1, none⟩ (.int .i64 ((t : Int) + 1)) = wu at *
        have hrow := Hh (RowB.own2 SU.out.o hrn HX9.out)
        go_wp2_with (go_at_call 73; (with_reducible refine (HDi.out _ _ _ _ _ SU.out.r.inv.fz SU.out.r.inv.le hrow.out).mono ?_); rintro en w8 ⟨v8, φ8', rfl, hi8, hv8⟩; obtain ⟨g9, n8, m8, k9, k9', a9, c9, a9', c9', rfl, _⟩ := hv8.open; have S8 := Hh (SU.out.call hi8); have V9 := Hh hv8; have L9' := Hh (hle9.out.trans (hle7.out.trans hi8.le)); have X9' := Hh (fun j (hj : j < n) => (HX9.out j hj).mono hi8.le); have u0 : w8.cell? ⟨b15, 0, none⟩ = some (.bool g1) := S8.out.d.k.cell 0; have u1 : w8.cell? ⟨b15, 1, none⟩ = some (.slice a1 k1 c1) := S8.out.d.k.cell 1; have u2 : w8.cell? ⟨b15, 2, none⟩ = some (.slice a2 k2 c2) := S8.out.d.k.cell 2; have u3 := S8.out.d.k.frz 0; have u4 := S8.out.d.k.frz 1; have u5 := S8.out.d.k.frz 2; clear hi8 hv8)
        have T9 := Hh (((S8.out.setD 0 (.bool g9)).setD 1 (.slice a9 k9 c9)).setD 2 (.slice a9' k9' c9'))
        have hrw9 := rndW_eq (t := t + 1) (T9.out.u.k.cell 1)
        go_roundw
        case rel => exact ⟨t + 1, φ8', rs, g9, a9, k9, c9, a9', k9', c9', by omega, L9', hgs2, hrn, T9, X9', V9⟩
        case measure => rw [hrw9, hrw.out]; omega
     ·have hend : t = R ∨ decide (e < dsM (rkW P mm l n t) mm l n nm) = false := .inr (decide_eq_false (fun h => hq0 (hqp.2 h)))
      clear hqp
      go_upto_region 36 with (go_at_call 11; (with_reducible refine (ROrder_P (RkS.sta _ _ _ _ _ _ _ _ _ _ _ _ _) hD hM hV LRr VE hle HBE hq hS).mono ?_); rintro en w9 ⟨φ9, rfl, S9', L9⟩)
      have X9 : Hid (∀ j, j < n → FrX φ9 (rs.getD j raw0).v ((rkW P mm l n t).getD j 0) (N * N) N) := Hh (fun j hj => (hX.out j hj).mono L9.out)
      have V9 := Hh (hV.out.mono L9.out)
      have hle9 := Hh (hle.out.trans L9.out)
      clear y0 y1 y2 y3 y4 y5 y6 y7 hq0
      have HRr := Hh ((rakR_go hf.out hkf.out hnm.out hn.out hemz.out hP.out he.out (rkS_eq hgs.out htR hend)).symm.trans hR.out)
      obtain ⟨L0, hL0⟩ : ∃ x, (shtR (rkW P mm l n t)).1 = x := ⟨_, rfl⟩
      obtain ⟨F0, hF0⟩ : ∃ x, (shtR (rkW P mm l n t)).2 = x := ⟨_, rfl⟩
      have hsh : Hid (shtR (rkW P mm l n t) = (L0, F0)) := Hh (by rw [← hL0, ← hF0])
      have hwlt : Hid ((rkW P mm l n t).length = n) := Hh (rkW_len t)
      obtain ⟨φ20, l20, s20, r20⟩ := S9'.out.rel2
      have S20 := Hh r20
      have SL20 := Hh (s20.rawRx hrn.out (rkW_len t) (fun j hj => (X9.out j hj).mono l20))
      have HPx := Hh (HP.out.mono S20.out.r.inv.le)
      have V20 := Hh (V9.out.mono l20)
      have L20 := Hh (hle9.out.trans l20)
      obtain ⟨mL, hmL⟩ : ∃ x, Hid (L0.length = x) := ⟨_, Hh rfl⟩
      have hml9 : Hid ((L0, F0).1.length = mL) := hmL
      clear hL0 hF0 hend hgs l20 s20 r20
      go_upto_region 38 with (go_at_call 54; (with_reducible refine (Rshut_any hD hM hNM hDM S20.out.r.inv.fz HPx.out SL20.out hwlt hn3 hsh).mono ?_); rintro en w7 ⟨aT, cT, φ7, rfl, hi7, s7⟩; rw [hml9.out]; have S7 := Hh (S20.out.call hi7); have SL7 := Hh s7; have L7 := Hh hi7.le; have o0 : w7.cell? ⟨b14, 0, none⟩ = some (.slice none 0 0) := S7.out.u.k.cell 0; have o1 := S7.out.u.k.frz 0; clear hi7 s7)
      have S8 := Hh (S7.out.setU 0 (.slice aT mL cT))
      have HV8 := Hh (V20.out.mono L7.out)
      have LE8 := Hh (L20.out.trans L7.out)
      clear o0 o1
      generalize w7.setCell ⟨b14, 0, none⟩ (.slice aT mL cT) = w8 at *
      clear S7
      by_cases hFz : F0 = 0
      case neg =>
       have HQ := Hh (HRr.out.symm.trans (rakE_1 hsh.out hFz))
       have h0i : (F0 == 0) = false := by simp [hFz]
       have h0j : (F0 != 0) = true := by simp [hFz]
       clear hFz
       obtain ⟨z0, z1, z2, z3, z4, z5, z6, z7, z8, z9⟩ := S8.out.r.rkd
       go_wp2
       have hZ := Hh (((((S8.out.r.set 0 (Value.slice none 0 0)).set 1 (Value.int .i64 0)).set 2 (Value.string ⟨#[]⟩)).set 3 (Value.string ⟨#[]⟩)).set 4 (Value.bool false))
       have e0 : _ = some (Value.slice none 0 0) := hZ.out.k.cell 0
       have e1 : _ = some (Value.int .i64 0) := hZ.out.k.cell 1
       have e2 : _ = some (Value.string ⟨#[]⟩) := hZ.out.k.cell 2
       have e3 : _ = some (Value.string ⟨#[]⟩) := hZ.out.k.cell 3
       have e4 : _ = some (Value.bool false) := hZ.out.k.cell 4
       (try simp only [Exit.inBlock, Exit.then])
       refine bodyPost_ret (v := .tuple #[.agg #[(Value.slice none 0 0), (Value.int .i64 0), (Value.string ⟨#[]⟩), (Value.string ⟨#[]⟩), (Value.bool false)], .int .i64 F0]) (by simp [results, Tryz.results28, go_sem, e0, e1, e2, e3, e4]) rfl ?_
       obtain rfl := HQ.out
       exact ⟨none, 0, φ7, rfl, hZ.out.inv, SlV.empty φ7⟩
      case pos =>
       subst hFz
       obtain ⟨S1, hS1⟩ : ∃ x, (ratR (dsM (rkW P mm l n t) mm l n nm)).1 = x := ⟨_, rfl⟩
       obtain ⟨T1, hT1⟩ : ∃ x, (ratR (dsM (rkW P mm l n t) mm l n nm)).2.1 = x := ⟨_, rfl⟩
       obtain ⟨F1, hF1⟩ : ∃ x, (ratR (dsM (rkW P mm l n t) mm l n nm)).2.2 = x := ⟨_, rfl⟩
       have hrr : Hid (ratR (dsM (rkW P mm l n t) mm l n nm) = (S1, T1, F1)) := Hh (by rw [← hS1, ← hT1, ← hF1])
       have HP7 := Hh (HPx.out.mono L7.out)
       have u0 : w8.cell? ⟨b15, 0, none⟩ = some (.bool g1) := S8.out.d.k.cell 0
       have u1 : w8.cell? ⟨b15, 1, none⟩ = some (.slice a1 k1 c1) := S8.out.d.k.cell 1
       have u2 : w8.cell? ⟨b15, 2, none⟩ = some (.slice a2 k2 c2) := S8.out.d.k.cell 2
       clear hS1 hT1 hF1
       go_upto_region 41 with (go_at_call 75; (with_reducible refine (RRatio_any hD hM S8.out.r.inv.fz HP7.out HV8.out hNDM hDDM hrr).mono ?_); rintro en w9 ⟨rfl, hb9⟩; have S9' := Hh (S8.out.callB hb9); have o0 : w9.cell? ⟨b14, 2, none⟩ = some (.string ⟨#[]⟩) := S9'.out.u.k.cell 2; have o1 : w9.cell? ⟨b14, 3, none⟩ = some (.string ⟨#[]⟩) := S9'.out.u.k.cell 3; have o2 := S9'.out.u.k.frz 2; have o3 := S9'.out.u.k.frz 3; clear hb9)
       have S9 := Hh ((S9'.out.setU 2 (.string S1)).setU 3 (.string T1))
       clear u0 u1 u2 o0 o1 o2 o3
       generalize (w9.setCell ⟨b14, 2, none⟩ (.string S1)).setCell ⟨b14, 3, none⟩ (.string T1) = wB at *
       clear S8 S9'
       by_cases hF1z : F1 = 0
       case neg =>
        have HQ := Hh (HRr.out.symm.trans (rakE_2 hnm.out hn.out hsh.out hrr.out hF1z))
        have h0i : (F1 == 0) = false := by simp [hF1z]
        have h0j : (F1 != 0) = true := by simp [hF1z]
        clear hF1z
        obtain ⟨z0, z1, z2, z3, z4, z5, z6, z7, z8, z9⟩ := S9.out.r.rkd
        go_wp2
        have hZ := Hh (((((S9.out.r.set 0 (Value.slice none 0 0)).set 1 (Value.int .i64 0)).set 2 (Value.string ⟨#[]⟩)).set 3 (Value.string ⟨#[]⟩)).set 4 (Value.bool false))
        have e0 : _ = some (Value.slice none 0 0) := hZ.out.k.cell 0
        have e1 : _ = some (Value.int .i64 0) := hZ.out.k.cell 1
        have e2 : _ = some (Value.string ⟨#[]⟩) := hZ.out.k.cell 2
        have e3 : _ = some (Value.string ⟨#[]⟩) := hZ.out.k.cell 3
        have e4 : _ = some (Value.bool false) := hZ.out.k.cell 4
        (try simp only [Exit.inBlock, Exit.then])
        refine bodyPost_ret (v := .tuple #[.agg #[(Value.slice none 0 0), (Value.int .i64 0), (Value.string ⟨#[]⟩), (Value.string ⟨#[]⟩), (Value.bool false)], .int .i64 F1]) (by simp [results, Tryz.results28, go_sem, e0, e1, e2, e3, e4]) rfl ?_
        obtain rfl := HQ.out
        exact ⟨none, 0, φ7, rfl, hZ.out.inv, SlV.empty φ7⟩
       case pos =>
        subst hF1z
        go_upto_region 43 with fail
        have EEx := Hh (LE8.out _ _ EE.out)
        have VEx := Hh (VE.out.mono LE8.out)
        have VDx := HV8
        have SLx := SL7
        have LRx := Hh φ7.le_refl
        have x0 : wB.cell? ⟨b15, 0, none⟩ = some (.bool g1) := S9.out.d.k.cell 0
        have x1 : wB.cell? ⟨b15, 1, none⟩ = some (.slice a1 k1 c1) := S9.out.d.k.cell 1
        have x2 : wB.cell? ⟨b15, 2, none⟩ = some (.slice a2 k2 c2) := S9.out.d.k.cell 2
        have x3 : wB.cell? ⟨b10, 0, none⟩ = some (.bool g0) := box_cell EEx.out φ7.le_refl S9.out.r.inv.fz 0
        have x4 : wB.cell? ⟨b10, 1, none⟩ = some (.slice a0 k0 c0) := box_cell EEx.out φ7.le_refl S9.out.r.inv.fz 1
        have x5 : wB.cell? ⟨b10, 2, none⟩ = some (.slice a0' k0' c0') := box_cell EEx.out φ7.le_refl S9.out.r.inv.fz 2
        by_cases hde : dsM (rkW P mm l n t) mm l n nm < e
        ·have hq3 : Hid (cmpQ (dsM (rkW P mm l n t) mm l n nm) e = -1) := Hh (by unfold cmpQ; rw [if_pos hde])
         have hle3 := Rat.le_of_lt hde
         clear hde
         have hbq : decide (dsM (rkW P mm l n t) mm l n nm ≤ e) = true := decide_eq_true hle3
         have HQ := Hh (HRr.out.symm.trans (rakE_3 hnm.out hn.out hsh.out hrr.out hbq))
         clear hbq
         go_upto_region 44 with (go_at_call 11; (with_reducible refine (ROrder_P (RkS.sta _ _ _ _ _ _ _ _ _ _ _ _ _) hD hM VDx LRx VEx LRx HBE hq3 S9).mono ?_); rintro en wC ⟨φz, rfl, SC, LC⟩; have o0 : wC.cell? ⟨b14, 4, none⟩ = some (.bool false) := SC.out.u.k.cell 4; have o1 := SC.out.u.k.frz 4)
         have SZ := Hh (SC.out.setU 4 (.bool true))
         clear o0 o1 x0 x1 x2 x3 x4 x5
         generalize wC.setCell ⟨b14, 4, none⟩ (.bool true) = wD at *
         have p0 : wD.cell? ⟨b14, 0, none⟩ = some (.slice aT mL cT) := SZ.out.u.k.cell 0
         have p1 : wD.cell? ⟨b14, 1, none⟩ = some (.int .i64 (t : Int)) := SZ.out.u.k.cell 1
         have p2 : wD.cell? ⟨b14, 2, none⟩ = some (.string S1) := SZ.out.u.k.cell 2
         have p3 : wD.cell? ⟨b14, 3, none⟩ = some (.string T1) := SZ.out.u.k.cell 3
         have p4 : wD.cell? ⟨b14, 4, none⟩ = some (.bool true) := SZ.out.u.k.cell 4
         obtain ⟨z0, z1, z2, z3, z4, z5, z6, z7, z8, z9⟩ := SZ.out.r.rkd
         have SLz := Hh (SLx.out.mono LC.out)
         go_wp2
         have hZ := Hh (((((SZ.out.r.set 0 (Value.slice aT mL cT)).set 1 (Value.int .i64 (t : Int))).set 2 (Value.string S1)).set 3 (Value.string T1)).set 4 (Value.bool true))
         have e0 : _ = some (Value.slice aT mL cT) := hZ.out.k.cell 0
         have e1 : _ = some (Value.int .i64 (t : Int)) := hZ.out.k.cell 1
         have e2 : _ = some (Value.string S1) := hZ.out.k.cell 2
         have e3 : _ = some (Value.string T1) := hZ.out.k.cell 3
         have e4 : _ = some (Value.bool true) := hZ.out.k.cell 4
         (try simp only [Exit.inBlock, Exit.then])
         refine bodyPost_ret (v := .tuple #[.agg #[(Value.slice aT mL cT), (Value.int .i64 (t : Int)), (Value.string S1), (Value.string T1), (Value.bool true)], .int .i64 0]) (by simp [results, Tryz.results28, go_sem, e0, e1, e2, e3, e4]) rfl ?_
         have hmm := hmL.out
         subst hmm
         obtain rfl := HQ.out
         exact ⟨aT, cT, φz, rfl, hZ.out.inv, SLz.out⟩
        ·by_cases hde2 : dsM (rkW P mm l n t) mm l n nm = e
         ·have hq3 : Hid (cmpQ (dsM (rkW P mm l n t) mm l n nm) e = 0) := Hh (by unfold cmpQ; rw [if_neg hde, if_pos hde2])
          have hle3 : dsM (rkW P mm l n t) mm l n nm ≤ e := by rw [hde2]; exact Rat.le_refl
          clear hde hde2
          have hbq : decide (dsM (rkW P mm l n t) mm l n nm ≤ e) = true := decide_eq_true hle3
          have HQ := Hh (HRr.out.symm.trans (rakE_3 hnm.out hn.out hsh.out hrr.out hbq))
          clear hbq
          go_upto_region 44 with (go_at_call 11; (with_reducible refine (ROrder_P (RkS.sta _ _ _ _ _ _ _ _ _ _ _ _ _) hD hM VDx LRx VEx LRx HBE hq3 S9).mono ?_); rintro en wC ⟨φz, rfl, SC, LC⟩; have o0 : wC.cell? ⟨b14, 4, none⟩ = some (.bool false) := SC.out.u.k.cell 4; have o1 := SC.out.u.k.frz 4)
          have SZ := Hh (SC.out.setU 4 (.bool true))
          clear o0 o1 x0 x1 x2 x3 x4 x5
          generalize wC.setCell ⟨b14, 4, none⟩ (.bool true) = wD at *
          have p0 : wD.cell? ⟨b14, 0, none⟩ = some (.slice aT mL cT) := SZ.out.u.k.cell 0
          have p1 : wD.cell? ⟨b14, 1, none⟩ = some (.int .i64 (t : Int)) := SZ.out.u.k.cell 1
          have p2 : wD.cell? ⟨b14, 2, none⟩ = some (.string S1) := SZ.out.u.k.cell 2
          have p3 : wD.cell? ⟨b14, 3, none⟩ = some (.string T1) := SZ.out.u.k.cell 3
          have p4 : wD.cell? ⟨b14, 4, none⟩ = some (.bool true) := SZ.out.u.k.cell 4
          obtain ⟨z0, z1, z2, z3, z4, z5, z6, z7, z8, z9⟩ := SZ.out.r.rkd
          have SLz := Hh (SLx.out.mono LC.out)
          go_wp2
          have hZ := Hh (((((SZ.out.r.set 0 (Value.slice aT mL cT)).set 1 (Value.int .i64 (t : Int))).set 2 (Value.string S1)).set 3 (Value.string T1)).set 4 (Value.bool true))
          have e0 : _ = some (Value.slice aT mL cT) := hZ.out.k.cell 0
          have e1 : _ = some (Value.int .i64 (t : Int)) := hZ.out.k.cell 1
          have e2 : _ = some (Value.string S1) := hZ.out.k.cell 2
          have e3 : _ = some (Value.string T1) := hZ.out.k.cell 3
          have e4 : _ = some (Value.bool true) := hZ.out.k.cell 4
          (try simp only [Exit.inBlock, Exit.then])
          refine bodyPost_ret (v := .tuple #[.agg #[(Value.slice aT mL cT), (Value.int .i64 (t : Int)), (Value.string S1), (Value.string T1), (Value.bool true)], .int .i64 0]) (by simp [results, Tryz.results28, go_sem, e0, e1, e2, e3, e4]) rfl ?_
          have hmm := hmL.out
          subst hmm
          obtain rfl := HQ.out
          exact ⟨aT, cT, φz, rfl, hZ.out.inv, SLz.out⟩
         ·have hq3 : Hid (cmpQ (dsM (rkW P mm l n t) mm l n nm) e = 1) := Hh (by unfold cmpQ; rw [if_neg hde, if_neg hde2])
          have hle3 : ¬ dsM (rkW P mm l n t) mm l n nm ≤ e := fun h => by
           rcases Rat.le_iff_lt_or_eq.1 h with q | q
           ·exact hde q
           ·exact hde2 q
          clear hde hde2
          have hbq : decide (dsM (rkW P mm l n t) mm l n nm ≤ e) = false := decide_eq_false hle3
          have HQ := Hh (HRr.out.symm.trans (rakE_3 hnm.out hn.out hsh.out hrr.out hbq))
          clear hbq
          go_upto_region 44 with (go_at_call 11; (with_reducible refine (ROrder_P (RkS.sta _ _ _ _ _ _ _ _ _ _ _ _ _) hD hM VDx LRx VEx LRx HBE hq3 S9).mono ?_); rintro en wC ⟨φz, rfl, SC, LC⟩; have o0 : wC.cell? ⟨b14, 4, none⟩ = some (.bool false) := SC.out.u.k.cell 4; have o1 := SC.out.u.k.frz 4)
          have SZ := Hh (SC.out.setU 4 (.bool false))
          clear o0 o1 x0 x1 x2 x3 x4 x5
          generalize wC.setCell ⟨b14, 4, none⟩ (.bool false) = wD at *
          have p0 : wD.cell? ⟨b14, 0, none⟩ = some (.slice aT mL cT) := SZ.out.u.k.cell 0
          have p1 : wD.cell? ⟨b14, 1, none⟩ = some (.int .i64 (t : Int)) := SZ.out.u.k.cell 1
          have p2 : wD.cell? ⟨b14, 2, none⟩ = some (.string S1) := SZ.out.u.k.cell 2
          have p3 : wD.cell? ⟨b14, 3, none⟩ = some (.string T1) := SZ.out.u.k.cell 3
          have p4 : wD.cell? ⟨b14, 4, none⟩ = some (.bool false) := SZ.out.u.k.cell 4
          obtain ⟨z0, z1, z2, z3, z4, z5, z6, z7, z8, z9⟩ := SZ.out.r.rkd
          have SLz := Hh (SLx.out.mono LC.out)
          go_wp2
          have hZ := Hh (((((SZ.out.r.set 0 (Value.slice aT mL cT)).set 1 (Value.int .i64 (t : Int))).set 2 (Value.string S1)).set 3 (Value.string T1)).set 4 (Value.bool false))
          have e0 : _ = some (Value.slice aT mL cT) := hZ.out.k.cell 0
          have e1 : _ = some (Value.int .i64 (t : Int)) := hZ.out.k.cell 1
          have e2 : _ = some (Value.string S1) := hZ.out.k.cell 2
          have e3 : _ = some (Value.string T1) := hZ.out.k.cell 3
          have e4 : _ = some (Value.bool false) := hZ.out.k.cell 4
          (try simp only [Exit.inBlock, Exit.then])
          refine bodyPost_ret (v := .tuple #[.agg #[(Value.slice aT mL cT), (Value.int .i64 (t : Int)), (Value.string S1), (Value.string T1), (Value.bool false)], .int .i64 0]) (by simp [results, Tryz.results28, go_sem, e0, e1, e2, e3, e4]) rfl ?_
          have hmm := hmL.out
          subst hmm
          obtain rfl := HQ.out
          exact ⟨aT, cT, φz, rfl, hZ.out.inv, SLz.out⟩
    ·have hend : t = R ∨ decide (e < dsM (rkW P mm l n t) mm l n nm) = false := .inl (by omega)
     have htli : ¬ (t : Int) < (R : Int) := by omega
     go_upto_region 36 with fail
     clear y0 y1
     have HRr := Hh ((rakR_go hf.out hkf.out hnm.out hn.out hemz.out hP.out he.out (rkS_eq hgs.out htR hend)).symm.trans hR.out)
     obtain ⟨L0, hL0⟩ : ∃ x, (shtR (rkW P mm l n t)).1 = x := ⟨_, rfl⟩
     obtain ⟨F0, hF0⟩ : ∃ x, (shtR (rkW P mm l n t)).2 = x := ⟨_, rfl⟩
     have hsh : Hid (shtR (rkW P mm l n t) = (L0, F0)) := Hh (by rw [← hL0, ← hF0])
     have hwlt : Hid ((rkW P mm l n t).length = n) := Hh (rkW_len t)
     obtain ⟨φ20, l20, s20, r20⟩ := hS.out.rel2
     have S20 := Hh r20
     have SL20 := Hh (s20.rawRx hrn.out (rkW_len t) (fun j hj => (hX.out j hj).mono l20))
     have HPx := Hh (HP.out.mono S20.out.r.inv.le)
     have V20 := Hh (hV.out.mono l20)
     have L20 := Hh (hle.out.trans l20)
     obtain ⟨mL, hmL⟩ : ∃ x, Hid (L0.length = x) := ⟨_, Hh rfl⟩
     have hml9 : Hid ((L0, F0).1.length = mL) := hmL
     clear hL0 hF0 hend hgs l20 s20 r20
     go_upto_region 38 with (go_at_call 54; (with_reducible refine (Rshut_any hD hM hNM hDM S20.out.r.inv.fz HPx.out SL20.out hwlt hn3 hsh).mono ?_); rintro en w7 ⟨aT, cT, φ7, rfl, hi7, s7⟩; rw [hml9.out]; have S7 := Hh (S20.out.call hi7); have SL7 := Hh s7; have L7 := Hh hi7.le; have o0 : w7.cell? ⟨b14, 0, none⟩ = some (.slice none 0 0) := S7.out.u.k.cell 0; have o1 := S7.out.u.k.frz 0; clear hi7 s7)
     have S8 := Hh (S7.out.setU 0 (.slice aT mL cT))
     have HV8 := Hh (V20.out.mono L7.out)
     have LE8 := Hh (L20.out.trans L7.out)
     clear o0 o1
     generalize w7.setCell ⟨b14, 0, none⟩ (.slice aT mL cT) = w8 at *
     clear S7
     by_cases hFz : F0 = 0
     case neg =>
      have HQ := Hh (HRr.out.symm.trans (rakE_1 hsh.out hFz))
      have h0i : (F0 == 0) = false := by simp [hFz]
      have h0j : (F0 != 0) = true := by simp [hFz]
      clear hFz
      obtain ⟨z0, z1, z2, z3, z4, z5, z6, z7, z8, z9⟩ := S8.out.r.rkd
      go_wp2
      have hZ := Hh (((((S8.out.r.set 0 (Value.slice none 0 0)).set 1 (Value.int .i64 0)).set 2 (Value.string ⟨#[]⟩)).set 3 (Value.string ⟨#[]⟩)).set 4 (Value.bool false))
      have e0 : _ = some (Value.slice none 0 0) := hZ.out.k.cell 0
      have e1 : _ = some (Value.int .i64 0) := hZ.out.k.cell 1
      have e2 : _ = some (Value.string ⟨#[]⟩) := hZ.out.k.cell 2
      have e3 : _ = some (Value.string ⟨#[]⟩) := hZ.out.k.cell 3
      have e4 : _ = some (Value.bool false) := hZ.out.k.cell 4
      (try simp only [Exit.inBlock, Exit.then])
      refine bodyPost_ret (v := .tuple #[.agg #[(Value.slice none 0 0), (Value.int .i64 0), (Value.string ⟨#[]⟩), (Value.string ⟨#[]⟩), (Value.bool false)], .int .i64 F0]) (by simp [results, Tryz.results28, go_sem, e0, e1, e2, e3, e4]) rfl ?_
      obtain rfl := HQ.out
      exact ⟨none, 0, φ7, rfl, hZ.out.inv, SlV.empty φ7⟩
     case pos =>
      subst hFz
      obtain ⟨S1, hS1⟩ : ∃ x, (ratR (dsM (rkW P mm l n t) mm l n nm)).1 = x := ⟨_, rfl⟩
      obtain ⟨T1, hT1⟩ : ∃ x, (ratR (dsM (rkW P mm l n t) mm l n nm)).2.1 = x := ⟨_, rfl⟩
      obtain ⟨F1, hF1⟩ : ∃ x, (ratR (dsM (rkW P mm l n t) mm l n nm)).2.2 = x := ⟨_, rfl⟩
      have hrr : Hid (ratR (dsM (rkW P mm l n t) mm l n nm) = (S1, T1, F1)) := Hh (by rw [← hS1, ← hT1, ← hF1])
      have HP7 := Hh (HPx.out.mono L7.out)
      have u0 : w8.cell? ⟨b15, 0, none⟩ = some (.bool g1) := S8.out.d.k.cell 0
      have u1 : w8.cell? ⟨b15, 1, none⟩ = some (.slice a1 k1 c1) := S8.out.d.k.cell 1
      have u2 : w8.cell? ⟨b15, 2, none⟩ = some (.slice a2 k2 c2) := S8.out.d.k.cell 2
      clear hS1 hT1 hF1
      go_upto_region 41 with (go_at_call 75; (with_reducible refine (RRatio_any hD hM S8.out.r.inv.fz HP7.out HV8.out hNDM hDDM hrr).mono ?_); rintro en w9 ⟨rfl, hb9⟩; have S9' := Hh (S8.out.callB hb9); have o0 : w9.cell? ⟨b14, 2, none⟩ = some (.string ⟨#[]⟩) := S9'.out.u.k.cell 2; have o1 : w9.cell? ⟨b14, 3, none⟩ = some (.string ⟨#[]⟩) := S9'.out.u.k.cell 3; have o2 := S9'.out.u.k.frz 2; have o3 := S9'.out.u.k.frz 3; clear hb9)
      have S9 := Hh ((S9'.out.setU 2 (.string S1)).setU 3 (.string T1))
      clear u0 u1 u2 o0 o1 o2 o3
      generalize (w9.setCell ⟨b14, 2, none⟩ (.string S1)).setCell ⟨b14, 3, none⟩ (.string T1) = wB at *
      clear S8 S9'
      by_cases hF1z : F1 = 0
      case neg =>
       have HQ := Hh (HRr.out.symm.trans (rakE_2 hnm.out hn.out hsh.out hrr.out hF1z))
       have h0i : (F1 == 0) = false := by simp [hF1z]
       have h0j : (F1 != 0) = true := by simp [hF1z]
       clear hF1z
       obtain ⟨z0, z1, z2, z3, z4, z5, z6, z7, z8, z9⟩ := S9.out.r.rkd
       go_wp2
       have hZ := Hh (((((S9.out.r.set 0 (Value.slice none 0 0)).set 1 (Value.int .i64 0)).set 2 (Value.string ⟨#[]⟩)).set 3 (Value.string ⟨#[]⟩)).set 4 (Value.bool false))
       have e0 : _ = some (Value.slice none 0 0) := hZ.out.k.cell 0
       have e1 : _ = some (Value.int .i64 0) := hZ.out.k.cell 1
       have e2 : _ = some (Value.string ⟨#[]⟩) := hZ.out.k.cell 2
       have e3 : _ = some (Value.string ⟨#[]⟩) := hZ.out.k.cell 3
       have e4 : _ = some (Value.bool false) := hZ.out.k.cell 4
       (try simp only [Exit.inBlock, Exit.then])
       refine bodyPost_ret (v := .tuple #[.agg #[(Value.slice none 0 0), (Value.int .i64 0), (Value.string ⟨#[]⟩), (Value.string ⟨#[]⟩), (Value.bool false)], .int .i64 F1]) (by simp [results, Tryz.results28, go_sem, e0, e1, e2, e3, e4]) rfl ?_
       obtain rfl := HQ.out
       exact ⟨none, 0, φ7, rfl, hZ.out.inv, SlV.empty φ7⟩
      case pos =>
       subst hF1z
       go_upto_region 43 with fail
       have EEx := Hh (LE8.out _ _ EE.out)
       have VEx := Hh (VE.out.mono LE8.out)
       have VDx := HV8
       have SLx := SL7
       have LRx := Hh φ7.le_refl
       have x0 : wB.cell? ⟨b15, 0, none⟩ = some (.bool g1) := S9.out.d.k.cell 0
       have x1 : wB.cell? ⟨b15, 1, none⟩ = some (.slice a1 k1 c1) := S9.out.d.k.cell 1
       have x2 : wB.cell? ⟨b15, 2, none⟩ = some (.slice a2 k2 c2) := S9.out.d.k.cell 2
       have x3 : wB.cell? ⟨b10, 0, none⟩ = some (.bool g0) := box_cell EEx.out φ7.le_refl S9.out.r.inv.fz 0
       have x4 : wB.cell? ⟨b10, 1, none⟩ = some (.slice a0 k0 c0) := box_cell EEx.out φ7.le_refl S9.out.r.inv.fz 1
       have x5 : wB.cell? ⟨b10, 2, none⟩ = some (.slice a0' k0' c0') := box_cell EEx.out φ7.le_refl S9.out.r.inv.fz 2
       by_cases hde : dsM (rkW P mm l n t) mm l n nm < e
       ·have hq3 : Hid (cmpQ (dsM (rkW P mm l n t) mm l n nm) e = -1) := Hh (by unfold cmpQ; rw [if_pos hde])
        have hle3 := Rat.le_of_lt hde
        clear hde
        have hbq : decide (dsM (rkW P mm l n t) mm l n nm ≤ e) = true := decide_eq_true hle3
        have HQ := Hh (HRr.out.symm.trans (rakE_3 hnm.out hn.out hsh.out hrr.out hbq))
        clear hbq
        go_upto_region 44 with (go_at_call 11; (with_reducible refine (ROrder_P (RkS.sta _ _ _ _ _ _ _ _ _ _ _ _ _) hD hM VDx LRx VEx LRx HBE hq3 S9).mono ?_); rintro en wC ⟨φz, rfl, SC, LC⟩; have o0 : wC.cell? ⟨b14, 4, none⟩ = some (.bool false) := SC.out.u.k.cell 4; have o1 := SC.out.u.k.frz 4)
        have SZ := Hh (SC.out.setU 4 (.bool true))
        clear o0 o1 x0 x1 x2 x3 x4 x5
        generalize wC.setCell ⟨b14, 4, none⟩ (.bool true) = wD at *
        have p0 : wD.cell? ⟨b14, 0, none⟩ = some (.slice aT mL cT) := SZ.out.u.k.cell 0
        have p1 : wD.cell? ⟨b14, 1, none⟩ = some (.int .i64 (t : Int)) := SZ.out.u.k.cell 1
        have p2 : wD.cell? ⟨b14, 2, none⟩ = some (.string S1) := SZ.out.u.k.cell 2
        have p3 : wD.cell? ⟨b14, 3, none⟩ = some (.string T1) := SZ.out.u.k.cell 3
        have p4 : wD.cell? ⟨b14, 4, none⟩ = some (.bool true) := SZ.out.u.k.cell 4
        obtain ⟨z0, z1, z2, z3, z4, z5, z6, z7, z8, z9⟩ := SZ.out.r.rkd
        have SLz := Hh (SLx.out.mono LC.out)
        go_wp2
        have hZ := Hh (((((SZ.out.r.set 0 (Value.slice aT mL cT)).set 1 (Value.int .i64 (t : Int))).set 2 (Value.string S1)).set 3 (Value.string T1)).set 4 (Value.bool true))
        have e0 : _ = some (Value.slice aT mL cT) := hZ.out.k.cell 0
        have e1 : _ = some (Value.int .i64 (t : Int)) := hZ.out.k.cell 1
        have e2 : _ = some (Value.string S1) := hZ.out.k.cell 2
        have e3 : _ = some (Value.string T1) := hZ.out.k.cell 3
        have e4 : _ = some (Value.bool true) := hZ.out.k.cell 4
        (try simp only [Exit.inBlock, Exit.then])
        refine bodyPost_ret (v := .tuple #[.agg #[(Value.slice aT mL cT), (Value.int .i64 (t : Int)), (Value.string S1), (Value.string T1), (Value.bool true)], .int .i64 0]) (by simp [results, Tryz.results28, go_sem, e0, e1, e2, e3, e4]) rfl ?_
        have hmm := hmL.out
        subst hmm
        obtain rfl := HQ.out
        exact ⟨aT, cT, φz, rfl, hZ.out.inv, SLz.out⟩
       ·by_cases hde2 : dsM (rkW P mm l n t) mm l n nm = e
        ·have hq3 : Hid (cmpQ (dsM (rkW P mm l n t) mm l n nm) e = 0) := Hh (by unfold cmpQ; rw [if_neg hde, if_pos hde2])
         have hle3 : dsM (rkW P mm l n t) mm l n nm ≤ e := by rw [hde2]; exact Rat.le_refl
         clear hde hde2
         have hbq : decide (dsM (rkW P mm l n t) mm l n nm ≤ e) = true := decide_eq_true hle3
         have HQ := Hh (HRr.out.symm.trans (rakE_3 hnm.out hn.out hsh.out hrr.out hbq))
         clear hbq
         go_upto_region 44 with (go_at_call 11; (with_reducible refine (ROrder_P (RkS.sta _ _ _ _ _ _ _ _ _ _ _ _ _) hD hM VDx LRx VEx LRx HBE hq3 S9).mono ?_); rintro en wC ⟨φz, rfl, SC, LC⟩; have o0 : wC.cell? ⟨b14, 4, none⟩ = some (.bool false) := SC.out.u.k.cell 4; have o1 := SC.out.u.k.frz 4)
         have SZ := Hh (SC.out.setU 4 (.bool true))
         clear o0 o1 x0 x1 x2 x3 x4 x5
         generalize wC.setCell ⟨b14, 4, none⟩ (.bool true) = wD at *
         have p0 : wD.cell? ⟨b14, 0, none⟩ = some (.slice aT mL cT) := SZ.out.u.k.cell 0
         have p1 : wD.cell? ⟨b14, 1, none⟩ = some (.int .i64 (t : Int)) := SZ.out.u.k.cell 1
         have p2 : wD.cell? ⟨b14, 2, none⟩ = some (.string S1) := SZ.out.u.k.cell 2
         have p3 : wD.cell? ⟨b14, 3, none⟩ = some (.string T1) := SZ.out.u.k.cell 3
         have p4 : wD.cell? ⟨b14, 4, none⟩ = some (.bool true) := SZ.out.u.k.cell 4
         obtain ⟨z0, z1, z2, z3, z4, z5, z6, z7, z8, z9⟩ := SZ.out.r.rkd
         have SLz := Hh (SLx.out.mono LC.out)
         go_wp2
         have hZ := Hh (((((SZ.out.r.set 0 (Value.slice aT mL cT)).set 1 (Value.int .i64 (t : Int))).set 2 (Value.string S1)).set 3 (Value.string T1)).set 4 (Value.bool true))
         have e0 : _ = some (Value.slice aT mL cT) := hZ.out.k.cell 0
         have e1 : _ = some (Value.int .i64 (t : Int)) := hZ.out.k.cell 1
         have e2 : _ = some (Value.string S1) := hZ.out.k.cell 2
         have e3 : _ = some (Value.string T1) := hZ.out.k.cell 3
         have e4 : _ = some (Value.bool true) := hZ.out.k.cell 4
         (try simp only [Exit.inBlock, Exit.then])
         refine bodyPost_ret (v := .tuple #[.agg #[(Value.slice aT mL cT), (Value.int .i64 (t : Int)), (Value.string S1), (Value.string T1), (Value.bool true)], .int .i64 0]) (by simp [results, Tryz.results28, go_sem, e0, e1, e2, e3, e4]) rfl ?_
         have hmm := hmL.out
         subst hmm
         obtain rfl := HQ.out
         exact ⟨aT, cT, φz, rfl, hZ.out.inv, SLz.out⟩
        ·have hq3 : Hid (cmpQ (dsM (rkW P mm l n t) mm l n nm) e = 1) := Hh (by unfold cmpQ; rw [if_neg hde, if_neg hde2])
         have hle3 : ¬ dsM (rkW P mm l n t) mm l n nm ≤ e := fun h => by
          rcases Rat.le_iff_lt_or_eq.1 h with q | q
          ·exact hde q
          ·exact hde2 q
         clear hde hde2
         have hbq : decide (dsM (rkW P mm l n t) mm l n nm ≤ e) = false := decide_eq_false hle3
         have HQ := Hh (HRr.out.symm.trans (rakE_3 hnm.out hn.out hsh.out hrr.out hbq))
         clear hbq
         go_upto_region 44 with (go_at_call 11; (with_reducible refine (ROrder_P (RkS.sta _ _ _ _ _ _ _ _ _ _ _ _ _) hD hM VDx LRx VEx LRx HBE hq3 S9).mono ?_); rintro en wC ⟨φz, rfl, SC, LC⟩; have o0 : wC.cell? ⟨b14, 4, none⟩ = some (.bool false) := SC.out.u.k.cell 4; have o1 := SC.out.u.k.frz 4)
         have SZ := Hh (SC.out.setU 4 (.bool false))
         clear o0 o1 x0 x1 x2 x3 x4 x5
         generalize wC.setCell ⟨b14, 4, none⟩ (.bool false) = wD at *
         have p0 : wD.cell? ⟨b14, 0, none⟩ = some (.slice aT mL cT) := SZ.out.u.k.cell 0
         have p1 : wD.cell? ⟨b14, 1, none⟩ = some (.int .i64 (t : Int)) := SZ.out.u.k.cell 1
         have p2 : wD.cell? ⟨b14, 2, none⟩ = some (.string S1) := SZ.out.u.k.cell 2
         have p3 : wD.cell? ⟨b14, 3, none⟩ = some (.string T1) := SZ.out.u.k.cell 3
         have p4 : wD.cell? ⟨b14, 4, none⟩ = some (.bool false) := SZ.out.u.k.cell 4
         obtain ⟨z0, z1, z2, z3, z4, z5, z6, z7, z8, z9⟩ := SZ.out.r.rkd
         have SLz := Hh (SLx.out.mono LC.out)
         go_wp2
         have hZ := Hh (((((SZ.out.r.set 0 (Value.slice aT mL cT)).set 1 (Value.int .i64 (t : Int))).set 2 (Value.string S1)).set 3 (Value.string T1)).set 4 (Value.bool false))
         have e0 : _ = some (Value.slice aT mL cT) := hZ.out.k.cell 0
         have e1 : _ = some (Value.int .i64 (t : Int)) := hZ.out.k.cell 1
         have e2 : _ = some (Value.string S1) := hZ.out.k.cell 2
         have e3 : _ = some (Value.string T1) := hZ.out.k.cell 3
         have e4 : _ = some (Value.bool false) := hZ.out.k.cell 4
         (try simp only [Exit.inBlock, Exit.then])
         refine bodyPost_ret (v := .tuple #[.agg #[(Value.slice aT mL cT), (Value.int .i64 (t : Int)), (Value.string S1), (Value.string T1), (Value.bool false)], .int .i64 0]) (by simp [results, Tryz.results28, go_sem, e0, e1, e2, e3, e4]) rfl ?_
         have hmm := hmL.out
         subst hmm
         obtain rfl := HQ.out
         exact ⟨aT, cT, φz, rfl, hZ.out.inv, SLz.out⟩
end Go.Proofs.YtmlpjffnmkndoaaGreatDoor
namespace Go.Proofs.YtmlpjffnmkndoaaGreatDoor
open Go.RowKit
set_option linter.unusedVariables false
set_option linter.unusedSimpArgs false
theorem ten_add {a b i j k : Nat} (h1 : a ≤ 10 ^ i) (h2 : b ≤ 10 ^ j) (hi : i ≤ k) (hj : j ≤ k) : a + b ≤ 10 ^ (k + 1) := by
 have h3 := ten_le h1 hi
 have h4 := ten_le h2 hj
 rw [Nat.pow_succ]
 omega
theorem rkB_ten {M K n N : Nat} (hN : Hid (N = 1000000000000)) (hK : Hid (10 ^ K ≤ M)) (hK2 : 150000 ≤ K) (hn : n ≤ 3000) : RkB M N n := by
  have h1 : N ≤ 10 ^ 12 := by rw [hN.out]; decide
  have h0 : n ≤ 10 ^ 4 := by have : (10 : Nat) ^ 4 = 10000 := by decide
                             omega
  have two : 2 ≤ 10 ^ 1 := by decide
  obtain ⟨m, hm⟩ : ∃ m, m = 3000 := ⟨_, rfl⟩
  rw [← hm] at hn
  have h3 := ten_pow h1 hn
  have h2 := ten_mul h1 h1
  have h5 := ten_mul (ten_mul h0 h2) h3
  have fin : ∀ {a i : Nat}, a ≤ 10 ^ i → i ≤ K → a ≤ M := fun h hi => Nat.le_trans (ten_le h hi) hK.out
  have hf : FtB M (N * N) N n N := ⟨fin h5 (by omega), fin h3 (by omega), fin (ten_mul h1 h3) (by omega), fin (ten_mul h1 h5) (by omega), fin (ten_mul h2 (ten_mul h1 h3)) (by omega), fin (ten_mul h1 (ten_mul h1 h5)) (by omega), fin h2 (by omega), fin (ten_mul h2 h1) (by omega), fin h2 (by omega), fin h1 (by omega)⟩
  have hD := ten_mul h3 h1
  have hA := ten_add (ten_mul h5 h1) (ten_mul h1 h3) (k := 60 + 12 * m) (by omega) (by omega)
  refine ⟨hf, ?_, fin (ten_mul (ten_mul h1 (ten_mul h1 h5)) two) (by omega), fin hA (by omega), fin hD (by omega), ?_, fin (ten_mul hD hD) (by omega), ?_, fin (ten_mul hD h1) (by omega), fin h2 (by omega), fin h1 (by omega)⟩
  · exact fin (ten_add (ten_mul (ten_mul (ten_mul h2 (ten_mul h1 h3)) h1) two) (ten_mul h1 (ten_mul h1 h5)) (k := 70 + 12 * m) (by omega) (by omega)) (by omega)
  · exact fin (ten_add (ten_mul hA hD) (ten_mul hA hD) (k := 90 + 24 * m) (by omega) (by omega)) (by omega)
  · exact fin (ten_add (ten_mul hA h1) (ten_mul h1 hD) (k := 90 + 24 * m) (by omega) (by omega)) (by omega)
theorem rkB_p {K n N : Nat} (hN : Hid (N = 1000000000000)) (hK2 : 150000 ≤ K) (hn : n ≤ 3000) : RkB (p10 K) N n := rkB_ten (K := K) hN (Hh (Nat.le_refl _)) hK2 hn
theorem eqRt (w : World) (s t : ByteArray) : (binOp .eql 32 (.agg #[.string s, .string t]) (.agg #[.string s, .string t])).run Tryz.prog w = .ok (.bool true) w := by
 have hu := Tryz.underlying32
 rw [run_eql_struct, run_equalIn_agg w 9999 _ _ _ (by simp only [Program.fieldsOf, hu]) (by kernel_rfl)]
 simp only [Program.fieldsOf, hu]
 have hi := Tryz.underlying9
 simp [Op.eqFields, part, Program.cellsOf, run_equalIn_string w _ 9 _ _ hi, Result.andThen]
abbrev Rkg := Int × Int × Rti
theorem rRkg (H : Type) (enc : TypeId × Value → H) (W : World) : Reads enc Tryz.prog W 42 Rkg (fun x => IsI64 x.1 ∧ IsI64 x.2.1 ∧ (StrG x.2.2.1 ∧ StrG x.2.2.2)) :=
 Reads.struct3 (s1 := 1) (s2 := 1) (s3 := 2) Tryz.underlying42 (by kernel_rfl) (by kernel_rfl) (by kernel_rfl) (by kernel_rfl) (by kernel_rfl) (by kernel_rfl) (by kernel_rfl) (rInt H enc W) (rInt H enc W) (rRti H enc W)
set_option maxRecDepth 100000 in
set_option maxHeartbeats 2000000 in
theorem raking_core {M : Nat} (hM : LenB M) (hD : Hid (DivOk M)) (hRD : Hid (RdivOk M)) (hM2 : p10 2000 ≤ M) {N : Nat} (hN : Hid (N = 1000000000000)) {mm : List Mgn} {nm cm : Nat} {am : Option Addr} {n : Nat} (hB : Hid (n ≤ 3000 → RkB M N n)) {a : Option Addr} {cap : Nat} {l : List Psn} {pl rd : Int} {s t : ByteArray} (hs : s.size ≤ 9223372036854775807) (ht : t.size ≤ 9223372036854775807) {w : World} {φ : Phi} (hφ : Fz φ w) (htp : TabP φ) (hp : PowP φ) (sm : SlV φ am cm mm) (hnm : Hid (mm.length = nm)) (hgm : Hid (∀ x ∈ mm, MgnG x)) (sl : SlV φ a cap l) (hn : Hid (l.length = n)) (hsz : Hid (∀ p ∈ l, PsnG p)) :
  Calls Tryz.prog 7 #[.slice am nm cm, .slice a n cap, .agg #[.int .i64 pl, .int .i64 rd, .string s, .string t]] w (fun e w' => e = .returned (.bool true) ∧ Below w.heap.size w w') := by
 obtain ⟨r, hR0⟩ : ∃ r, rakR mm l pl rd (s, t) = r := ⟨_, rfl⟩
 obtain ⟨⟨L, q, ⟨S, T⟩, b⟩, F⟩ := r
 have hR := Hh hR0
 obtain ⟨m, hm⟩ : ∃ m, Hid (L.length = m) := ⟨_, Hh rfl⟩
 have hmx : Hid (((L, q, (S, T), b), F).1.1.length = m) := hm
 have hFF : (F == F) = true := by simp
 have hqq : (q == q) = true := by simp
 have hbb : (b == b) = true := by simp
 obtain ⟨φb, lb, ib, eb⟩ := (Inv.start hφ).frz (.cells #[.int .i64 pl, .int .i64 rd, .string s, .string t] 42)
 have HI := Hh ib
 have EB := Hh eb
 have HS := Hh (sl.mono lb)
 have HM := Hh (sm.mono lb)
 have HP := Hh (hp.mono lb)
 have HTP := Hh (htp.mono lb)
 have HM2 := Hh hM2
 clear hφ hp htp sl sm lb ib eb hR0 hM2
 have hEq := fun w => eqRt w S T
 have hgd : Tryz.prog.eqGuardType Tryz.prog.depth 32 = false := by kernel_rfl
 go_enter Tryz.func7, Tryz.ntmps7
 go_upto_region 1 with fail
 generalize w.alloc (.cells #[.int .i64 pl, .int .i64 rd, .string s, .string t] 42) = wx at *
 obtain ⟨br, hbr⟩ : ∃ b, w.heap.size = b := ⟨_, rfl⟩
 rw [hbr] at EB ⊢
 have HBR := Hh hbr
 clear hbr
 have hbox := Hh (fun (ψ : Phi) (W : World) (hl : φb.le ψ) (hf : Fz ψ W) => (⟨box_cell EB.out hl hf 0, box_cell EB.out hl hf 1, box_cell EB.out hl hf 2, box_cell EB.out hl hf 3⟩ : W.cell? ⟨br, 0, none⟩ = some (.int .i64 pl) ∧ W.cell? ⟨br, 1, none⟩ = some (.int .i64 rd) ∧ W.cell? ⟨br, 2, none⟩ = some (.string s) ∧ W.cell? ⟨br, 3, none⟩ = some (.string t)))
 obtain ⟨x0, x1, x2, x3⟩ := hbox.out φb wx φb.le_refl HI.out.fz
 go_upto_region 2 with (go_at_call 13; (with_reducible refine (Rake_any hD hM HM2.out hN hB HI.out.fz HP.out HM.out hnm hgm HS.out hn hsz hs ht hR).mono ?_); rintro en w1 ⟨a1, c1, φ1, rfl, hi1, s1⟩; rw [hmx.out]; have I1 := Hh (HI.out.call hi1); have S1 := Hh s1; have L1 := Hh hi1.le; have hm9 : m ≤ 9223372036854775807 := (by have h1 := s1.capn; have h2 := s1.capm; rw [hmx.out] at h1; unfold maxLen at h2; omega); clear hi1 s1)
 clear x0 x1 x2 x3
 obtain ⟨φ2, l2, i2, e2⟩ := (Inv.start I1.out.fz).frz (.cells #[.slice a1 m c1, .int .i64 q, .string S, .string T, .bool b] 44)
 have I2 := Hh (I1.out.call i2)
 have E2 := Hh e2
 have S2 := Hh (S1.out.mono l2)
 have L2 := Hh (L1.out.trans l2)
 have HP2 := Hh (HP.out.mono L2.out)
 have HTP2 := Hh (HTP.out.mono L2.out)
 have HM2' := Hh (HM.out.mono L2.out)
 have HS2 := Hh (HS.out.mono L2.out)
 clear i2 e2 l2 I1 S1 L1
 try dsimp only
 generalize w1.alloc (.cells #[.slice a1 m c1, .int .i64 q, .string S, .string T, .bool b] 44) = w2 at *
 generalize w1.heap.size = b7 at *
 obtain ⟨x0, x1, x2, x3⟩ := hbox.out φ2 w2 L2.out I2.out.fz
 go_upto_region 3 with (go_at_call 28; (with_reducible refine (RRake_any hRD hM HM2.out hN hB I2.out.fz HP2.out HTP2.out HM2'.out hnm hgm HS2.out hn hsz hs ht hR).mono ?_); rintro en w3 ⟨a3, c3, φ3, rfl, hi3, s3⟩; rw [hmx.out]; have I3 := Hh (I2.out.call hi3); have S3 := Hh s3; have L3 := Hh hi3.le; clear hi3 s3)
 clear x0 x1 x2 x3
 obtain ⟨φ4, l4, i4, e4⟩ := (Inv.start I3.out.fz).frz (.cells #[.slice a3 m c3, .int .i64 q, .string S, .string T, .bool b] 44)
 have I4 := Hh (I3.out.call i4)
 have E4 := Hh e4
 have S4 := Hh (S3.out.mono l4)
 have S24 := Hh (S2.out.mono (L3.out.trans l4))
 have E24 := Hh ((L3.out.trans l4) _ _ E2.out)
 clear i4 e4 l4 I3 S3 I2
 try dsimp only
 generalize w3.alloc (.cells #[.slice a3 m c3, .int .i64 q, .string S, .string T, .bool b] 44) = w4 at *
 generalize w3.heap.size = b9 at *
 have hbx := Hh (fun (W : World) (hf : Fz φ4 W) => (⟨box_cell E24.out φ4.le_refl hf 0, box_cell E24.out φ4.le_refl hf 1, box_cell E24.out φ4.le_refl hf 2, box_cell E24.out φ4.le_refl hf 3, box_cell E24.out φ4.le_refl hf 4, box_cell E4.out φ4.le_refl hf 0, box_cell E4.out φ4.le_refl hf 1, box_cell E4.out φ4.le_refl hf 2, box_cell E4.out φ4.le_refl hf 3, box_cell E4.out φ4.le_refl hf 4⟩ : W.cell? ⟨b7, 0, none⟩ = some (.slice a1 m c1) ∧ W.cell? ⟨b7, 1, none⟩ = some (.int .i64 q) ∧ W.cell? ⟨b7, 2, none⟩ = some (.string S) ∧ W.cell? ⟨b7, 3, none⟩ = some (.string T) ∧ W.cell? ⟨b7, 4, none⟩ = some (.bool b) ∧ W.cell? ⟨b9, 0, none⟩ = some (.slice a3 m c3) ∧ W.cell? ⟨b9, 1, none⟩ = some (.int .i64 q) ∧ W.cell? ⟨b9, 2, none⟩ = some (.string S) ∧ W.cell? ⟨b9, 3, none⟩ = some (.string T) ∧ W.cell? ⟨b9, 4, none⟩ = some (.bool b)))
 obtain ⟨y0, y1, y2, y3, y4, y5, y6, y7, y8, y9⟩ := hbx.out w4 I4.out.fz
 go_wp2_with (go_at_call 27; (with_reducible refine (EqualR_same m _ _ L _ _ _ _ I4.out.fz S24.out hm hm9 S4.out).mono ?_); rintro en w5 ⟨rfl, hb5⟩; have I5 := Hh (I4.out.callB hb5); obtain ⟨z0, z1, z2, z3, z4, z5, z6, z7, z8, z9⟩ := hbx.out w5 I5.out.fz; clear hb5)
 go_ret
 exact ⟨rfl, HBR.out ▸ I5.out.bel⟩
theorem weightRakingMatchesSpec_walk (w : World) (φ : Phi) (hφ : Fz φ w) (hp : PowP φ) (htp : TabP φ) (am : Option Addr) (cm : Nat) (ms : List Mgn) (sm : SlV φ am cm ms) (gm : ms.length * Tryz.prog.bytesOf 30 ≤ reachBytes ∧ ∀ x ∈ ms, GMgn x) (a : Option Addr) (cap : Nat) (xs : List Psn) (s : SlV φ a cap xs) (g : xs.length * Tryz.prog.bytesOf 76 ≤ reachBytes ∧ ∀ x ∈ xs, GPsnR x) (cs : Array Value) (x : Rkg) (hx : Rep.rep φ x cs.toList) (gx : IsI64 x.1 ∧ IsI64 x.2.1 ∧ (StrG x.2.2.1 ∧ StrG x.2.2.2)) :
  Calls Tryz.prog 7 #[.slice am ms.length cm, .slice a xs.length cap, .agg cs] w fun e w' => e = .returned (.bool true) ∧ Below w.heap.size w w' := by
 obtain ⟨c, d, hcd, hc, c2, d2, hcd2, hc2, c3, d3, hcd3, hc3, hd3⟩ := hx
 have e : cs = #[.int .i64 x.1, .int .i64 x.2.1, .string x.2.2.1, .string x.2.2.2] := by
  apply Array.toList_inj.1
  rw [hcd, hc, hcd2, hc2, hcd3, hc3, hd3]; rfl
 rw [e]
 have hM := lenB_p (j := 200000) (k := 22223) (by decide) (by decide)
 have g1 := gx.2.2.1
 have g2 := gx.2.2.2
 unfold StrG reachBytes at g1 g2
 exact raking_core hM (Hh (div_any hM)) (Hh (Rdiv_any hM)) (p10_leP (by decide)) (Hh rfl) (Hh (fun h => rkB_p (Hh rfl) (by decide) h)) (by omega) (by omega) hφ htp hp sm (Hh rfl) (Hh (mgnG_of gm.2)) s (Hh rfl) (Hh (psnG_ofR g.2))
end Go.Proofs.YtmlpjffnmkndoaaGreatDoor
namespace Go.Proofs.YtmlpjffnmkndoaaGreatDoor.weightRakingMatchesSpec
open Go.ChangeShapes Go.WideShapes Go.ChangeAt Go.RowKit
set_option linter.unusedVariables false
theorem own : ownKnob Tryz.prog.godebug = none := by kernel_rfl
theorem laidOut : laidOutB Tryz.prog = true := by kernel_rfl
theorem datum2 : (Rows.laid_internal_strconv_uint64pow10 : DataW Unit) = Lib.tabData .u64 Lib.pow10Tab := by kernel_rfl
theorem fact2 {W : World} (h0 : laidMetH Tryz.prog Rows.weightRakingMatchesSpecRow.laid W) : PowP (Phi.all W) := by
 rw [MakeChecks.laidMetH_plain _ _ _ (by kernel_rfl)] at h0
 have h : laidMet Tryz.prog [("math/bits.deBruijn32tab", Rows.laid_math_bits_deBruijn32tab), ("math/bits.deBruijn64tab", Rows.laid_math_bits_deBruijn64tab), ("internal/strconv.uint64pow10", Rows.laid_internal_strconv_uint64pow10), ("unicode/utf8.acceptRanges", Rows.laid_unicode_utf8_acceptRanges), ("strconv.ErrRange", Rows.laid_strconv_ErrRange), ("strconv.ErrSyntax", Rows.laid_strconv_ErrSyntax), ("unicode.White_Space", Rows.laid_unicode_White_Space), ("strings.asciiSpace", Rows.laid_strings_asciiSpace), ("unicode/utf8.first", Rows.laid_unicode_utf8_first)] W := h0
 have h1 : laidMet Tryz.prog [("internal/strconv.uint64pow10", Rows.laid_internal_strconv_uint64pow10), ("unicode/utf8.acceptRanges", Rows.laid_unicode_utf8_acceptRanges), ("strconv.ErrRange", Rows.laid_strconv_ErrRange), ("strconv.ErrSyntax", Rows.laid_strconv_ErrSyntax), ("unicode.White_Space", Rows.laid_unicode_White_Space), ("strings.asciiSpace", Rows.laid_strings_asciiSpace), ("unicode/utf8.first", Rows.laid_unicode_utf8_first)] W := h.tail.tail
 rw [datum2] at h1
 have hg : Tryz.prog.globalNamed "internal/strconv.uint64pow10" = some 4 := by kernel_rfl
 have ht := Lib.tabIs_of_head (t := 220) (e := 122) hg (by kernel_rfl) Tryz.underlying220 Tryz.underlying122 (by kernel_rfl) (by kernel_rfl) h1
 exact PowP.of_tab ht
theorem datum7 : (Rows.laid_strings_asciiSpace : DataW Unit) = Lib.tabData .u8 Lib.asciiSpaceTab := by kernel_rfl
theorem fact7 {W : World} (h0 : laidMetH Tryz.prog Rows.weightRakingMatchesSpecRow.laid W) : TabP (Phi.all W) := by
 rw [MakeChecks.laidMetH_plain _ _ _ (by kernel_rfl)] at h0
 have h : laidMet Tryz.prog [("math/bits.deBruijn32tab", Rows.laid_math_bits_deBruijn32tab), ("math/bits.deBruijn64tab", Rows.laid_math_bits_deBruijn64tab), ("internal/strconv.uint64pow10", Rows.laid_internal_strconv_uint64pow10), ("unicode/utf8.acceptRanges", Rows.laid_unicode_utf8_acceptRanges), ("strconv.ErrRange", Rows.laid_strconv_ErrRange), ("strconv.ErrSyntax", Rows.laid_strconv_ErrSyntax), ("unicode.White_Space", Rows.laid_unicode_White_Space), ("strings.asciiSpace", Rows.laid_strings_asciiSpace), ("unicode/utf8.first", Rows.laid_unicode_utf8_first)] W := h0
 have h1 : laidMet Tryz.prog [("strings.asciiSpace", Rows.laid_strings_asciiSpace), ("unicode/utf8.first", Rows.laid_unicode_utf8_first)] W := h.tail.tail.tail.tail.tail.tail.tail
 rw [datum7] at h1
 have hg : Tryz.prog.globalNamed "strings.asciiSpace" = some 0 := by kernel_rfl
 have ht := Lib.tabIs_of_head (t := 184) (e := 5) hg (by kernel_rfl) Tryz.underlying184 Tryz.underlying5 (by kernel_rfl) (by kernel_rfl) h1
 intro c hc
 rw [Phi.all_cell, ht.cell hg c (by rw [Lib.asciiSpaceTab_length]; exact hc), Lib.asciiSpaceTab_at c hc]
set_option maxRecDepth 100000 in
theorem lifted (os : Os) (started : os.Started) (H : Type) (enc : TypeId × Value → H) :
    ReturnsInHanded {} Tryz.checked os 7 .any (fun w args => (Rows.weightRakingMatchesSpecSpec.pre enc Tryz.prog Tryz.f7 [] false w args ∧ laidMetH Tryz.prog Rows.weightRakingMatchesSpecRow.laid w) ∧ sizedMet enc Tryz.prog Tryz.f7 (OpenSpec.ofChange Rows.weightRakingMatchesSpecSpec) false w args) (Rows.weightRakingMatchesSpecSpec.post enc Tryz.prog Tryz.f7 false true false false) := by
  refine returnsInHanded_of_change_and (C := Tryz.checked) (X := fun w _ => laidMetH Tryz.prog Rows.weightRakingMatchesSpecRow.laid w) (fun _ _ _ hh h => h.of_heap hh) own started (by kernel_rfl) Tryz.func7
    (ChangeSpec.witness_shaped (enc := enc) (C := Tryz.checked) (os := os) (X := fun w _ => laidMetH Tryz.prog Rows.weightRakingMatchesSpecRow.laid w) false (World.laidAll Tryz.prog os Rows.weightRakingMatchesSpecRow.laid) #[.slice none 0 0, .slice none 0 0, .agg #[.int .i64 0, .int .i64 0, .string ⟨#[]⟩, .string ⟨#[]⟩]] 8 (World.laidAll_os _ _ _) (World.shaped_of_ZipB (by kernel_rfl) (by kernel_rfl)) (by kernel_rfl) (by kernel_rfl) (by kernel_rfl) (by rw [MakeChecks.laidMetH_plain _ _ _ (by kernel_rfl)]; exact laidMet_laidAll _ (by kernel_rfl) (by kernel_rfl))) ?_
  intro W base args ds gs before hval0 hW hcnd hsz0 hL _
  have hsz : (DataW.weightsEach Tryz.prog (Tryz.f7.params.toList ++ Rows.weightRakingMatchesSpecSpec.plain.varTypes Tryz.prog) (ds ++ gs)).all (· ≤ reachBytes) = true := hsz0
  have hval : ∀ (j : Nat) t v, Tryz.f7.params[j]? = some t → args[j]? = some v → Value.okWide Tryz.prog W .any base t v := hval0
  have hW' := hW
  obtain ⟨p, q, hA0, hV, rfl, hfz, hnd⟩ := hW
  have hA : DataW.TrodAll enc Tryz.prog W 0 (fun _ => true) true Tryz.f7.params.toList args.toList ds p := hA0
  rw [Tryz.params7] at hA hval hsz
  obtain ⟨v0, vs0, d0, ds0, p0, q0, hargs, rfl, rfl, h0, r0⟩ := trodAll_cons hA
  obtain ⟨v1, vs1, d1, ds1, p1, q1, rfl, rfl, rfl, h1, r1⟩ := trodAll_cons r0
  obtain ⟨v2, vs2, d2, ds2, p2, q2, rfl, rfl, rfl, h2, r2⟩ := trodAll_cons r1
  obtain ⟨rfl, rfl, rfl⟩ := trodAll_nil r2
  obtain rfl : args = #[v0, v1, v2] := by cases args; simp_all
  obtain ⟨rfl, rfl⟩ := trodVars_none hV
  have k0 := h0
  have lt0 : ∀ x ∈ p0, x.block < W.heap.size := by obtain ⟨m, hm⟩ := k0; exact DataW.trod_lt m _ _ _ hm
  have wt0 : ∀ n ∈ d0.weights Tryz.prog 22, n ≤ reachBytes := fun n hn => by simpa using List.all_eq_true.1 hsz _ (DataW.weights_mem_each (j := 0) rfl rfl n hn)
  obtain ⟨fu0, hf0⟩ := h0
  obtain ⟨x0, rr0, g0⟩ := rMgns H enc W _ _ _ _ _ _ _ hf0 wt0
  obtain ⟨a0, len0, cap0, rfl⟩ := okWide_slice Tryz.underlying22 (hval 0 22 v0 rfl rfl)
  obtain ⟨b0, c0, e0, s0⟩ := rr0
  simp [Value.cells] at e0
  obtain ⟨rfl, rfl, rfl⟩ := e0
  have k1 := h1
  have lt1 : ∀ x ∈ p1, x.block < W.heap.size := by obtain ⟨m, hm⟩ := k1; exact DataW.trod_lt m _ _ _ hm
  have wt1 : ∀ n ∈ d1.weights Tryz.prog 23, n ≤ reachBytes := fun n hn => by simpa using List.all_eq_true.1 hsz _ (DataW.weights_mem_each (j := 1) rfl rfl n hn)
  obtain ⟨fu1, hf1⟩ := h1
  obtain ⟨x1, rr1, g1⟩ := rPsnsR H enc W _ _ _ _ _ _ _ hf1 wt1
  obtain ⟨a1, len1, cap1, rfl⟩ := okWide_slice Tryz.underlying23 (hval 1 23 v1 rfl rfl)
  obtain ⟨b1, c1, e1, s1⟩ := rr1
  simp [Value.cells] at e1
  obtain ⟨rfl, rfl, rfl⟩ := e1
  have k2 := h2
  have lt2 : ∀ x ∈ p2, x.block < W.heap.size := by obtain ⟨m, hm⟩ := k2; exact DataW.trod_lt m _ _ _ hm
  have wt2 : ∀ n ∈ d2.weights Tryz.prog 42, n ≤ reachBytes := fun n hn => by simpa using List.all_eq_true.1 hsz _ (DataW.weights_mem_each (j := 2) rfl rfl n hn)
  obtain ⟨fu2, hf2⟩ := h2
  obtain ⟨x2, rr2, g2⟩ := rRkg H enc W _ _ _ _ _ _ _ hf2 wt2
  obtain ⟨cs2, ec2, _⟩ := okWide_struct Tryz.underlying42 (hval 2 42 v2 rfl rfl)
  subst ec2
  clear hA0 hval0
  refine (weightRakingMatchesSpec_walk W (Phi.all W) (Fz.all W) (fact2 hL) (fact7 hL) a0 cap0 x0 s0 g0 a1 cap1 x1 s1 g1 cs2 x2 (by simpa [Value.cells] using rr2) g2).mono fun e W' ⟨he, bel⟩ => ?_
  subst he
  exact ⟨_, rfl, _, _, _, [], _, [], hW', trodAll_mk1 (shut_bool Tryz.underlying4 _), (trodAll_cons_mk (Below.trod laidOut (by kernel_rfl) (of_decide_eq_true (by kernel_rfl)) k0 bel lt0) (trodAll_cons_mk (Below.trod laidOut (by kernel_rfl) (of_decide_eq_true (by kernel_rfl)) k1 bel lt1) (trodAll_cons_mk (Below.trod laidOut (by kernel_rfl) (of_decide_eq_true (by kernel_rfl)) k2 bel lt2) trodAll_mk0))), rfl, bel.frame _, fun h => by cases h⟩
theorem over : Rows.weightRakingMatchesSpecRow.holds Tryz.pinned (OpenSpec.ofChange Rows.weightRakingMatchesSpecSpec) :=
 OpenClaim.holds_of_wide 7 Tryz.f7 rfl rfl rfl rfl rfl rfl rfl ⟨rfl, rfl, rfl, rfl, rfl⟩ rfl rfl rfl rfl rfl (by kernel_rfl) Tryz.func7 (by kernel_rfl)
  (of_decide_eq_true (by kernel_rfl)) (by unfold Func.isWrapper; first | (rw [if_pos (by decide +kernel)]; kernel_rfl) | (rw [if_neg (by decide +kernel)]; exact ⟨rfl, rfl⟩))
  (fun os started H enc _ => lifted os started H enc)
theorem proved : Rows.WeightRakingMatchesSpecCardSaid :=
 Claim7.holds_tied_plain_at .later [] [.data, .data, .data, .data, .sentinel, .sentinel, .listed, .data, .pinned] true (true, "d1eac1021dd9d73c573404824b7a9ff269e0e59d5fe7685d7411960c626fab04") true
  over (fun _ h => by cases h) (by kernel_rfl) (fun _ h => by cases h) weightRakingMatchesSpec_row_tie rfl ⟨rfl, rfl⟩ (by kernel_rfl) rfl
  (fun f fn hf hfn => by
   obtain rfl : f = 7 := Option.some.inj ((show Tryz.prog.funcNamed "canvass/canvasslaw9.WeightRakingMatchesSpec" = some 7 by kernel_rfl).symm.trans hf) |>.symm
   obtain rfl : fn = Tryz.f7 := (Option.some.inj (Tryz.func7.symm.trans hfn)).symm
   exact ⟨by kernel_rfl, fun j t ht => by
    rw [Tryz.params7] at ht
    have hm : t ∈ [22, 23, 42] := by simpa using Array.mem_of_getElem? ht
    have hall : ([22, 23, 42].all fun u => !Tryz.prog.wantsStandIn u) = true := by kernel_rfl
    exact (show Tryz.prog.wantsStandIn t = false by simpa using List.all_eq_true.1 hall t hm)⟩)
  (by kernel_rfl)
end Go.Proofs.YtmlpjffnmkndoaaGreatDoor.weightRakingMatchesSpec
