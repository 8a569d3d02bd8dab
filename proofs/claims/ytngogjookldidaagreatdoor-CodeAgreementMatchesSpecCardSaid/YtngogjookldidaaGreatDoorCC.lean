/- The walks of common and checkPair, the reference's side. Conditions: the codes are positive. The walk of Confusions, the reference's side. Conditions: none beyond what the claim form gives. -/
import Derived.Test.YtngogjookldidaaGreatDoorCB
import Derived.Test.YtngogjookldidaaGreatDoorKB
import Derived.Deep.DeepCutAuto
import Derived.ChangeKeysEq
import Derived.Laws.StructEq
namespace Go.Proofs.YtngogjookldidaaGreatDoor
open Go.RowKit
set_option linter.unusedVariables false
set_option linter.unusedSimpArgs false
theorem slArr : SliceTy Tryz.prog 48 52 (.agg #[.int .i64 0, .int .i64 0]) (Rep.size Pr) 16 := ⟨Tryz.underlying48, by kernel_rfl, rfl, by decide, by decide⟩
theorem pickC_nn {a : Int} {g : List Cdg} (h : ∀ x ∈ g, 0 < x.2.2) : 0 ≤ pickC a g := by
  by_cases h0 : pickC a g = 0
  · omega
  · obtain ⟨x, hx, e⟩ := pickC_mem h0
    have := h x hx
    omega
set_option maxRecDepth 100000 in
set_option maxHeartbeats 4000000 in
theorem Rcommon_any {w : World} {ac : Option Addr} {cc nc : Nat} {cs : List Cdg} {φ : Phi} (hφ : Fz φ w) (sc : SlV φ ac cc cs) (hnc : Hid (cs.length = nc)) (hn2 : nc ≤ 20000) (hpos : Hid (∀ x ∈ cs, 0 < x.2.2)) (a b : Int) :
    Calls Tryz.prog 17 #[.slice ac nc cc, .int .i64 a, .int .i64 b] w (SlPostL (prsL (grpK cs nc) a b) φ w) := by
  go_enter Tryz.func17, Tryz.ntmps17
  go_wp2_with fail
  refine (Rcases_any hφ sc hnc hn2).mono ?_
  rintro e w2 ⟨ag, cg, φ2, rfl, hi2, sg⟩
  have hgo := Lib.hid (grpK_ok cs nc (by rw [hnc.out]; omega))
  have hgp : Hid (∀ g ∈ grpK cs nc, ∀ x ∈ g, 0 < x.2.2) := Lib.hid (fun g hg x hx => hpos.out x ((hgo.out.1 g hg).2.2 x hx))
  obtain ⟨gs, hgs⟩ : ∃ gs, Hid (grpK cs nc = gs) := ⟨_, Lib.hid rfl⟩
  rw [hgs.out] at sg hgo hgp ⊢
  obtain ⟨ng, hng⟩ : ∃ ng, Hid (gs.length = ng) := ⟨_, Lib.hid rfl⟩
  have hng2 : ng ≤ 20000 := by have := hgo.out.2.1; rw [hng.out] at this; omega
  rw [hng.out]
  have I2 := Lib.hid hi2
  have hSt : Hid (OwSt w2 φ2 52 none 0 (prsL (gs.take 0) a b) w2) := Lib.hid ⟨Inv.start hi2.fz, Own.nil _ _ _ _⟩
  clear hi2
  go_wp2
  go_loopw [7, 17] (fun o i wr => ∃ (k : Nat) (ao : Option Addr) (co : Nat) (xs : List Pr), k ≤ ng ∧ i = .int .i64 k ∧ o = .slice ao xs.length co ∧ Hid (prsL (gs.take k) a b = xs) ∧ Hid (OwSt w2 φ2 52 ao co xs wr)) (fun _ i _ => ng - (intOf i).toNat)
  case atStart => exact ⟨0, none, 0, [], Nat.zero_le _, rfl, rfl, Lib.hid rfl, hSt⟩
  case round =>
    clear hSt
    obtain ⟨k, ao, co, xs, hk, rfl, rfl, hxs, hS⟩ := hrel
    by_cases hlt : k < ng
    · obtain ⟨bg, off, rfl, f⟩ := sg.listsC hng hlt
      obtain ⟨ak, ck, sk, f⟩ := f k hlt
      obtain ⟨hb, c1⟩ := f wr hS.out.inv.fz
      have htk := Lib.hid (take_snocD [] gs k ng hng.out hlt)
      have hgm : gs.getD k [] ∈ gs := by rw [getD_elem0 [] gs k (by rw [hng.out]; exact hlt)]; exact List.getElem_mem _
      have hgk := Lib.hid (hgo.out.1 (gs.getD k []) hgm)
      have hgq := Lib.hid (hgp.out (gs.getD k []) hgm)
      have hxl : xs.length ≤ 20000 := by rw [← hxs.out]; have := prsL_len (gs.take k) a b; rw [List.length_take] at this; omega
      clear f hgm
      generalize gs.getD k [] = g at *
      obtain ⟨nk, hnk⟩ : ∃ nk, Hid (g.length = nk) := ⟨_, Lib.hid rfl⟩
      have hnk2 : nk ≤ 20000 := by have := hgk.out.2.1; rw [hnk.out] at this; omega
      rw [hnk.out] at c1
      go_wp2
      clear c1 hb
      go_loopw [10, 11, 23] (fun v10 v11 i wi => ∃ j : Nat, j ≤ nk ∧ i = .int .i64 j ∧ v10 = .int .i64 (pickC a (g.take j)) ∧ v11 = .int .i64 (pickC b (g.take j)) ∧ Hid (OwSt w2 φ2 52 ao co xs wi)) (fun _ _ i _ => nk - (intOf i).toNat)
      case atStart => exact ⟨0, Nat.zero_le _, rfl, rfl, rfl, hS⟩
      case round =>
        clear hS
        rename World => wi
        obtain ⟨j, hj, rfl, rfl, rfl, hS⟩ := hrel
        by_cases hjl : j < nk
        · obtain ⟨bx, ox, rfl, fx⟩ := sk.cdgD hnk hjl
          obtain ⟨hbx, d1, d2, d3⟩ := fx j hjl wi hS.out.inv.fz
          have htj := Lib.hid (take_snocD cdg0 g j nk hnk.out hjl)
          clear fx
          generalize hX : g.getD j cdg0 = X at *
          obtain ⟨x1, x2, x3⟩ := X
          dsimp only at d1 d2 d3
          have hp1 : Hid (pickC a (g.take (j + 1)) = if x2 = a then x3 else pickC a (g.take j)) := Lib.hid (by rw [htj.out, pickC_snoc])
          have hp2 : Hid (pickC b (g.take (j + 1)) = if x2 = b then x3 else pickC b (g.take j)) := Lib.hid (by rw [htj.out, pickC_snoc])
          clear hX htj
          generalize pickC a (g.take j) = p1 at *
          generalize pickC b (g.take j) = p2 at *
          have hS2 := Lib.hid (OwSt.alloc hS.out (.cells #[.int .i64 x1, .int .i64 x2, .int .i64 x3] 70))
          by_cases ha : x2 = a <;> by_cases hb : x2 = b
          · have ha2 : ((x2 : Int) == a) = true := by simp [ha]
            have hb2 : ((x2 : Int) == b) = true := by simp [hb]
            have HA := Lib.hid ha
            have HBq := Lib.hid hb
            clear ha hb
            go_wp2
            go_roundw
            case rel => exact ⟨j + 1, by omega, by go_num, by rw [hp1.out, if_pos HA.out], by rw [hp2.out, if_pos HBq.out], hS2⟩
            case measure => (simp [intOf] <;> omega)
          · have ha2 : ((x2 : Int) == a) = true := by simp [ha]
            have hb2 : ((x2 : Int) == b) = false := by simp [hb]
            have HA := Lib.hid ha
            have HBq := Lib.hid hb
            clear ha hb
            go_wp2
            go_roundw
            case rel => exact ⟨j + 1, by omega, by go_num, by rw [hp1.out, if_pos HA.out], by rw [hp2.out, if_neg HBq.out], hS2⟩
            case measure => (simp [intOf] <;> omega)
          · have ha2 : ((x2 : Int) == a) = false := by simp [ha]
            have hb2 : ((x2 : Int) == b) = true := by simp [hb]
            have HA := Lib.hid ha
            have HBq := Lib.hid hb
            clear ha hb
            go_wp2
            go_roundw
            case rel => exact ⟨j + 1, by omega, by go_num, by rw [hp1.out, if_neg HA.out], by rw [hp2.out, if_pos HBq.out], hS2⟩
            case measure => (simp [intOf] <;> omega)
          · have ha2 : ((x2 : Int) == a) = false := by simp [ha]
            have hb2 : ((x2 : Int) == b) = false := by simp [hb]
            have HA := Lib.hid ha
            have HBq := Lib.hid hb
            clear ha hb
            go_wp2
            go_roundw
            case rel => exact ⟨j + 1, by omega, by go_num, by rw [hp1.out, if_neg HA.out], by rw [hp2.out, if_neg HBq.out], hS2⟩
            case measure => (simp [intOf] <;> omega)
        · obtain rfl : j = nk := by omega
          have ex : g.take j = g := by rw [← hnk.out, List.take_length]
          have hn1 := pickC_nn (a := a) hgq.out
          have hn2' := pickC_nn (a := b) hgq.out
          have hsn := Lib.hid (prsL_snoc (gs.take k) a b g)
          have hpg : Hid (pairG a b g = (pickC a g, pickC b g)) := Lib.hid rfl
          rw [ex]
          rw [hpg.out] at hsn
          clear ex hpg
          generalize pickC a g = p1 at *
          generalize pickC b g = p2 at *
          by_cases h1 : p1 = 0
          · have g1 : decide ((p1 : Int) > 0) = false := decide_eq_false (by omega)
            have hno : Hid (prsL (gs.take (k + 1)) a b = xs) := Lib.hid (by rw [htk.out, hsn.out, if_neg (by simp [okP, h1]), List.append_nil, hxs.out])
            clear h1
            go_wp2
            go_roundw
            case rel => exact ⟨k + 1, ao, co, xs, by omega, by go_num, rfl, hno, hS⟩
            case measure => (simp [intOf] <;> omega)
          · have g1 : decide ((p1 : Int) > 0) = true := decide_eq_true (by omega)
            by_cases h2 : p2 = 0
            · have g2 : decide ((p2 : Int) > 0) = false := decide_eq_false (by omega)
              have hno : Hid (prsL (gs.take (k + 1)) a b = xs) := Lib.hid (by rw [htk.out, hsn.out, if_neg (by simp [okP, h2]), List.append_nil, hxs.out])
              clear h1 h2
              go_wp2
              go_roundw
              case rel => exact ⟨k + 1, ao, co, xs, by omega, by go_num, rfl, hno, hS⟩
              case measure => (simp [intOf] <;> omega)
            · have g2 : decide ((p2 : Int) > 0) = true := decide_eq_true (by omega)
              have hyes : Hid (prsL (gs.take (k + 1)) a b = xs ++ [(p1, p2)]) := Lib.hid (by rw [htk.out, hsn.out, if_pos (by simp [okP, h1, h2]), hxs.out])
              clear h1 h2 hsn
              have hin := hS.out.inv
              have hon := hS.out.own
              go_wp2_with (at_builtin; refine wpList_app1 (α := Pr) rfl _ _ 48 rfl slArr hin ao co _ hon _ _ (p1, p2) ⟨[.int .i64 p1], [.int .i64 p2], rfl, rfl, rfl⟩ rfl 1 rfl (by omega) ?_; intro a2 cap2 w5 hi5 hown5 hgr)
              have hS5 : Hid (OwSt w2 φ2 52 a2 cap2 (xs ++ [(p1, p2)]) w5) := Lib.hid ⟨hi5, hown5⟩
              clear hi5 hown5 hgr hin hon
              go_roundw
              case rel => exact ⟨k + 1, a2, cap2, xs ++ [(p1, p2)], by omega, by go_num, by simp, hyes, hS5⟩
              case measure => (simp [intOf] <;> omega)
    · obtain rfl : k = ng := by omega
      have ex : gs.take k = gs := by rw [← hng.out, List.take_length]
      rw [ex] at hxs
      go_wp2
      go_ret
      obtain ⟨φ', hle, hi, hs, _⟩ := hS.out.own.release hS.out.inv
      exact ⟨ao, co, φ', by rw [hgs.out, hxs.out]; rfl, I2.out.call hi, by rw [hgs.out, hxs.out]; exact hs⟩
theorem RcheckPair_any {w : World} {a : Option Addr} {c n : Nat} {l : List Nod} {φ : Phi} (hφ : Fz φ w) (s : SlV φ a c l) (hn : Hid (l.length = n)) (hm : n ≤ 9223372036854775807) {ac : Option Addr} {cc nc : Nat} {cs : List Cdg} (sc : SlV φ ac cc cs) (hnc : Hid (cs.length = nc)) (hmc : nc ≤ 9223372036854775807) (x y : Int) :
    Calls Tryz.prog 16 #[.slice a n c, .slice ac nc cc, .int .i64 x, .int .i64 y] w (IntB (bthF l cs x y) w) := by
  obtain ⟨q, hq⟩ : ∃ q, Hid (frcF l cs = q) := ⟨_, Lib.hid rfl⟩
  by_cases h0 : q = 0
  · subst h0
    obtain ⟨b1, hb1⟩ : ∃ b, Hid (outB x 1 50 = b) := ⟨_, Lib.hid rfl⟩
    obtain ⟨b2, hb2⟩ : ∃ b, Hid (outB y 1 50 = b) := ⟨_, Lib.hid rfl⟩
    have e : Hid (bthF l cs x y = if b1 = true ∨ b2 = true then 1 else 0) := Lib.hid (by rw [bthF, if_neg (by simp [hq.out]), hb1.out, hb2.out])
    cases b1 <;> cases b2
    all_goals
      go_enter Tryz.func16, Tryz.ntmps16
      go_wp2_with (first
        | (go_at_call 30; refine (RCheckCodings_any hφ s hn hm sc hnc hmc).mono ?_; rintro e w1 ⟨rfl, hb⟩; rw [hq.out])
        | (go_at_call 39; first | ((with_reducible refine (within_b x _ _ _ hb1.out).mono ?_); rintro e w' ⟨rfl, rfl⟩) | ((with_reducible refine (within_b y _ _ _ hb2.out).mono ?_); rintro e w' ⟨rfl, rfl⟩) | fail))
      go_ret
      exact ⟨ret_int (by rw [e.out]; rfl), hb⟩
  · have hg : ((q : Int) != 0) = true := by simp [h0]
    have e : Hid (bthF l cs x y = q) := Lib.hid (by rw [bthF, hq.out, if_pos h0])
    clear h0
    go_enter Tryz.func16, Tryz.ntmps16
    go_wp2_with (go_at_call 30; refine (RCheckCodings_any hφ s hn hm sc hnc hmc).mono ?_; rintro e w1 ⟨rfl, hb⟩; rw [hq.out])
    go_ret
    exact ⟨ret_int (by rw [e.out]), hb⟩
end Go.Proofs.YtngogjookldidaaGreatDoor

namespace Go.Proofs.YtngogjookldidaaGreatDoor
open Go.RowKit
set_option linter.unusedVariables false
set_option linter.unusedSimpArgs false
theorem eqlArr (w : World) (a b c d : Int) : (binOp .eql 52 (.agg #[.int .i64 a, .int .i64 b]) (.agg #[.int .i64 c, .int .i64 d])).run Tryz.prog w = .ok (.bool (decide (a = c ∧ b = d))) w := by
  have hc : Tryz.prog.cellsOf 3 = 1 := by kernel_rfl
  obtain ⟨i, hi⟩ : ∃ i, Tryz.prog.info? 3 = some i := Option.isSome_iff_exists.1 (by kernel_rfl)
  have hu := Tryz.underlying3
  rw [run_eql_struct, run_equalIn_array w 9999 _ _ Tryz.underlying52 hi, hc, show List.range 2 = [0, 1] from rfl]
  by_cases h1 : a = c <;> by_cases h2 : b = d <;> simp [Op.eqItems, part, h1, h2, run_equalIn_int w _ 3 _ _ _ _ hu, Result.andThen]
/-- A slice of the call's own, while boxes are frozen one by one. -/
structure CoG {α : Type} [Rep α] (w0 : World) (φ0 φ : Phi) (E : TypeId) (ao : Option Addr) (co : Nat) (out : List α) (wr : World) : Prop where
  inv : Inv w0.heap.size w0 φ0 φ wr
  own : Own w0.heap.size φ wr E ao co out
section
variable {α : Type} [Rep α] {w0 wr w' : World} {φ0 φ φ' : Phi} {E : TypeId} {ao : Option Addr} {co : Nat} {out : List α}
theorem CoG.callB (h : CoG w0 φ0 φ E ao co out wr) (hb : Below wr.heap.size wr w') : CoG w0 φ0 φ E ao co out w' := ⟨h.inv.callB hb, h.own.callB hb⟩
theorem CoG.alloc (h : CoG w0 φ0 φ E ao co out wr) (o : Obj) : CoG w0 φ0 φ E ao co out (wr.alloc o) := ⟨h.inv.alloc o, h.own.alloc o⟩
theorem CoG.frz (h : CoG w0 φ0 φ E ao co out wr) (o : Obj) : ∃ φ', φ.le φ' ∧ CoG w0 φ0 φ' E ao co out (wr.alloc o) ∧ φ' wr.heap.size = some o := by
  have hn : φ wr.heap.size = none := h.inv.fz.new_none (Nat.le_refl _)
  have h2 := h.inv.alloc o
  have hle := φ.le_upd wr.heap.size o hn
  refine ⟨φ.upd wr.heap.size o, hle, ⟨⟨h2.bel, h2.base, h2.fz.upd (heap_alloc_new wr o), h2.le.trans hle, fun b hb => ?_⟩, ?_⟩, by unfold Phi.upd; rw [if_pos rfl]⟩
  · unfold Phi.upd; rw [if_neg (by have := h.inv.bel.size; omega)]; exact h2.new b hb
  · refine h.own.kept hle (fun b hb hz => ?_) (fun x hx => heap_alloc_old wr o (h.own.lt x hx).2)
    unfold Phi.upd; rw [if_neg (by omega)]; exact hz
end
theorem cell_allocC {w : World} {a : Addr} {v : Value} (h : w.cell? a = some v) (o : Obj) : (w.alloc o).cell? a = some v := (((Below.refl w.heap.size w).alloc (Nat.le_refl _) o).cell (p := a) (World.block_lt_of_cell? w a h)).trans h
theorem frz_cell {φ φ' : Phi} {W : World} {b : Nat} {cs : Array Value} {T : TypeId} (hb : φ b = some (.cells cs T)) (hl : φ.le φ') (hf : Fz φ' W) (j : Nat) : W.cell? ⟨b, j, none⟩ = cs[j]? := (hf.blk (hl _ _ hb)).cell j
/-- Rows of the product, as far as they have come. -/
def rowJ (l : List Nod) (L : List Pr) (x : Int) (j : Nat) : List Pr := ((l.take j).map (fun y => ((x, y.1) : Pr))).filter (fun p => decide (0 < cnt1 L p))
def crossI (l : List Nod) (L : List Pr) (i : Nat) : List Pr := ((l.take i).flatMap (fun x => l.map (fun y => ((x.1, y.1) : Pr)))).filter (fun p => decide (0 < cnt1 L p))
theorem rowJ_step (l : List Nod) (L : List Pr) (x : Int) {j n : Nat} (hn : l.length = n) (hj : j < n) : rowJ l L x (j + 1) = rowJ l L x j ++ (if 0 < cnt1 L (x, (l.getD j nod0).1) then [(x, (l.getD j nod0).1)] else []) := by
  unfold rowJ
  rw [take_snocD nod0 l j n hn hj, List.map_append, List.filter_append, List.map_singleton]
  generalize ((x, (l.getD j nod0).1) : Pr) = p
  by_cases h : 0 < cnt1 L p <;> simp [h]
theorem crossI_step (l : List Nod) (L : List Pr) {i n : Nat} (hn : l.length = n) (hi : i < n) : crossI l L (i + 1) = crossI l L i ++ rowJ l L (l.getD i nod0).1 n := by
  unfold crossI rowJ
  rw [take_snocD nod0 l i n hn hi, List.flatMap_append, List.filter_append]
  congr 1
  rw [← hn, List.take_length]
  simp
theorem crossI_len (l : List Nod) (L : List Pr) {n : Nat} (h : FrOk l n) (i : Nat) : (crossI l L i).length ≤ L.length := by
  have hp : (crossI l L i).Pairwise ltP := by
    refine List.Pairwise.sublist ?_ (cross_rise h L)
    unfold crossI crossL
    refine List.Sublist.filter _ ?_
    rw [show l.flatMap (fun x => l.map (fun y => ((x.1, y.1) : Pr))) = (l.take i).flatMap (fun x => l.map (fun y => ((x.1, y.1) : Pr))) ++ (l.drop i).flatMap (fun x => l.map (fun y => ((x.1, y.1) : Pr))) by rw [← List.flatMap_append, List.take_append_drop]]
    exact List.sublist_append_left _ _
  refine nodup_lenC (hp.imp (fun {a b} h e => by subst e; exact ltP_asym _ _ h h)) (fun p hp => ?_)
  unfold crossI at hp
  have h2 := (List.mem_filter.1 hp).2
  obtain ⟨x, hx, rfl⟩ := cntP_mem (show 0 < cnt1 L p by simpa using h2)
  exact hx
theorem crossIJ_len (l : List Nod) (L : List Pr) {n : Nat} (h : FrOk l n) {i j : Nat} (hi : i < n) : (crossI l L i ++ rowJ l L (l.getD i nod0).1 j).length ≤ L.length := by
  refine Nat.le_trans ?_ (crossI_len l L h (i + 1))
  rw [crossI_step l L h.len hi, List.length_append, List.length_append]
  have : (rowJ l L (l.getD i nod0).1 j).length ≤ (rowJ l L (l.getD i nod0).1 n).length := by
    unfold rowJ
    refine List.Sublist.length_le ((List.Sublist.map _ ?_).filter _)
    rw [← h.len, List.take_length]
    exact List.take_sublist _ _
  omega
set_option maxRecDepth 100000 in
set_option maxHeartbeats 4000000 in
theorem RConfusions_any {w : World} {a : Option Addr} {c n : Nat} {l : List Nod} {φ : Phi} (hφ : Fz φ w) (s : SlV φ a c l) (hn : Hid (l.length = n)) (hm : n ≤ 9223372036854775807) {ac : Option Addr} {cc nc : Nat} {cs : List Cdg} (sc : SlV φ ac cc cs) (hnc : Hid (cs.length = nc)) (hmc : nc ≤ 9223372036854775807) (x y : Int) :
    Calls Tryz.prog 5 #[.slice a n c, .slice ac nc cc, .int .i64 x, .int .i64 y] w (SlPost (conF l cs x y) φ w) := by
  have HFZ := Lib.hid hφ
  obtain ⟨eb, heb⟩ : ∃ q, Hid (bthF l cs x y = q) := ⟨_, Lib.hid rfl⟩
  by_cases h0 : eb = 0
  case neg =>
    have hg : ((eb : Int) != 0) = true := by simp [h0]
    have hR : Hid (conF l cs x y = ([], eb)) := Lib.hid (by rw [conF, heb.out, if_pos h0])
    clear h0
    go_enter Tryz.func5, Tryz.ntmps5
    go_wp2_with fail
    refine (RcheckPair_any hφ s hn hm sc hnc hmc x y).mono ?_
    rintro e w1 ⟨rfl, hb1⟩
    rw [heb.out]
    go_wp2
    go_ret2
    exact ⟨none, 0, φ, by rw [hR.out]; rfl, (Inv.start HFZ.out).callB hb1, by rw [hR.out]; exact SlV.empty _⟩
  subst h0
  have hfc := Lib.hid (bth_frc heb.out)
  have hok := Lib.hid (frc_ok hfc.out)
  rw [hn.out] at hok
  have hn6 : n ≤ 600 := hok.out.pos.2
  have hn2 : nc ≤ 20000 := (cdg_ok hnc hfc.out).1
  have hpos : Hid (∀ x ∈ cs, 0 < x.2.2) := Lib.hid (fun x hx => by
    obtain ⟨i, hi, rfl⟩ := List.getElem_of_mem hx
    have h1 := (cdg_ok (Lib.hid rfl) hfc.out).2.2 i hi
    rw [getD_elem0 _ _ _ hi] at h1
    obtain ⟨j, hj⟩ := Option.isSome_iff_exists.1 h1
    obtain ⟨h2, h3⟩ := ixTo_some hj
    have := hok.out.rng j (by rw [← hn.out]; exact h2)
    omega)
  have hLl : (prsL (grpK cs nc) x y).length ≤ 20000 := by
    have h1 := prsL_len (grpK cs nc) x y
    have h2 := (grpK_ok cs nc (by rw [hnc.out]; omega)).2.1
    omega
  have hR : Hid (conF l cs x y = ((crossL l (prsL (grpK cs nc) x y)).map (conE (prsL (grpK cs nc) x y)), 0)) := Lib.hid (by rw [conF, heb.out, if_neg (by simp), hnc.out])
  obtain ⟨L, hLL⟩ : ∃ L, Hid (prsL (grpK cs nc) x y = L) := ⟨_, Lib.hid rfl⟩
  rw [hLL.out] at hLl hR
  go_enter Tryz.func5, Tryz.ntmps5
  go_wp2_with fail
  refine (RcheckPair_any hφ s hn hm sc hnc hmc x y).mono ?_
  rintro e w1 ⟨rfl, hb1⟩
  rw [heb.out]
  have I1 := Lib.hid ((Inv.start hφ).callB hb1)
  clear hb1
  go_wp2_with fail
  refine (Rcommon_any I1.out.fz sc hnc hn2 hpos x y).mono ?_
  rw [hLL.out]
  rintro e w2 ⟨ap, cp, φ2, rfl, hi2, sp⟩
  have I2 := Lib.hid (I1.out.call hi2)
  have S2 := Lib.hid (s.mono hi2.le)
  have hG0 : Hid (CoG w2 φ2 φ2 30 none 0 ((crossI l L 0).map (conE L)) w2) := Lib.hid ⟨Inv.start hi2.fz, Own.nil _ _ _ _⟩
  obtain ⟨np, hnp⟩ : ∃ k, Hid (L.length = k) := ⟨_, Lib.hid rfl⟩
  rw [hnp.out] at hLl ⊢
  clear hi2 I1 s sc hφ
  go_wp2
  go_loopw [12, 34] (fun o i wr => ∃ (k : Nat) (ao : Option Addr) (co : Nat) (xs : List Cdg) (ψ : Phi), k ≤ n ∧ i = .int .i64 k ∧ o = .slice ao xs.length co ∧ Hid ((crossI l L k).map (conE L) = xs) ∧ Hid (CoG w2 φ2 ψ 30 ao co xs wr)) (fun _ i _ => n - (intOf i).toNat)
  case atStart => exact ⟨0, none, 0, [], φ2, Nat.zero_le _, rfl, rfl, Lib.hid rfl, hG0⟩
  case round =>
    clear hG0
    obtain ⟨k, ao, co, xs, ψ, hk, rfl, rfl, hxs, hG⟩ := hrel
    by_cases hlt : k < n
    · obtain ⟨b, off, rfl, f⟩ := S2.out.nodesD hn hlt
      obtain ⟨hb, c1, c2, c3⟩ := f k hlt wr (hG.out.inv.fz.sub hG.out.inv.le)
      have hst := Lib.hid (crossI_step l L hn.out hlt)
      have hil := Lib.hid (fun j => crossIJ_len l L hok.out (j := j) hlt)
      generalize (l.getD k nod0).2.2 = t3 at *
      generalize (l.getD k nod0).2.1 = t2 at *
      generalize (l.getD k nod0).1 = t1 at *
      obtain ⟨ψ2, le2, G2, k2⟩ := hG.out.frz (.cells #[.int .i64 t1, .int .i64 t2, .string t3] 51)
      have HG2 : Hid (∃ ys : List Cdg, (crossI l L k ++ rowJ l L t1 0).map (conE L) = ys ∧ CoG w2 φ2 ψ2 30 ao co ys (wr.alloc (.cells #[.int .i64 t1, .int .i64 t2, .string t3] 51)) ∧ ys.length = xs.length) := Lib.hid ⟨xs, by rw [← hxs.out]; simp [rowJ], G2, rfl⟩
      have K2 := Lib.hid k2
      go_wp2
      clear c1 c2 c3 hb hG le2 G2 k2 hxs
      generalize (wr.alloc (.cells #[.int .i64 t1, .int .i64 t2, .string t3] 51)) = wa at *
      generalize wr.heap.size = b14 at *
      obtain ⟨ys0, hys0, HG3, hyl0⟩ := HG2.out
      have HYS0 := Lib.hid hys0
      have HG4 := Lib.hid HG3
      rw [← hyl0]
      clear HG2 hys0 HG3 hyl0
      go_loopw [12, 40] (fun o i wi => ∃ (j : Nat) (ao : Option Addr) (co : Nat) (ys : List Cdg) (ψ3 : Phi), j ≤ n ∧ i = .int .i64 j ∧ o = .slice ao ys.length co ∧ Hid ((crossI l L k ++ rowJ l L t1 j).map (conE L) = ys) ∧ Hid (ψ2.le ψ3) ∧ Hid (CoG w2 φ2 ψ3 30 ao co ys wi)) (fun _ i _ => n - (intOf i).toNat)
      case atStart => exact ⟨0, ao, co, ys0, ψ2, Nat.zero_le _, rfl, rfl, HYS0, Lib.hid ψ2.le_refl, HG4⟩
      case round =>
        clear HYS0 HG4
        rename World => wi
        obtain ⟨j, ao, co, ys, ψ3, hj, rfl, rfl, hys, hle, hG⟩ := hrel
        by_cases hjl : j < n
        · obtain ⟨hb, c1, c2, c3⟩ := f j hjl wi (hG.out.inv.fz.sub hG.out.inv.le)
          have hst2 := Lib.hid (rowJ_step l L t1 hn.out hjl)
          have hyl : ys.length ≤ 20000 := by rw [← hys.out, List.length_map]; have := hil.out j; have := hnp.out; omega
          generalize (l.getD j nod0).2.2 = u3 at *
          generalize (l.getD j nod0).2.1 = u2 at *
          generalize (l.getD j nod0).1 = u1 at *
          obtain ⟨ψ4, le4, G4, k4⟩ := hG.out.frz (.cells #[.int .i64 u1, .int .i64 u2, .string u3] 51)
          have HG4 := Lib.hid G4
          have K4 := Lib.hid k4
          have L4 := Lib.hid (hle.out.trans le4)
          go_wp2
          clear c1 c2 c3 hb hG le4 G4 k4 hle
          generalize (wi.alloc (.cells #[.int .i64 u1, .int .i64 u2, .string u3] 51)) = wb at *
          generalize wi.heap.size = b16 at *
          go_loopw [17, 46] (fun v17 i wm => ∃ (m : Nat), m ≤ np ∧ i = .int .i64 m ∧ v17 = .int .i64 (cntP (fun q => q = ((t1, u1) : Pr)) (L.take m) : Nat) ∧ Hid (CoG w2 φ2 ψ4 30 ao co ys wm)) (fun _ i _ => np - (intOf i).toNat)
          case atStart => exact ⟨0, Nat.zero_le _, rfl, rfl, HG4⟩
          case round =>
            clear HG4
            rename World => wm
            obtain ⟨m, hmp, rfl, rfl, hG⟩ := hrel
            have y0 : wm.cell? ⟨b14, 0, none⟩ = some (.int .i64 t1) := frz_cell K2.out L4.out hG.out.inv.fz 0
            have y1 : wm.cell? ⟨b16, 0, none⟩ = some (.int .i64 u1) := frz_cell K4.out ψ4.le_refl hG.out.inv.fz 0
            by_cases hml : m < np
            · obtain ⟨bp, op, rfl, fp⟩ := sp.prsD hnp hml
              obtain ⟨hbp, d1, d2⟩ := fp m hml wm (hG.out.inv.fz.sub hG.out.inv.le)
              have htm := Lib.hid (take_snocD (0, 0) L m np hnp.out hml)
              clear fp
              generalize hX : L.getD m (0, 0) = X at *
              obtain ⟨p1, p2⟩ := X
              dsimp only at d1 d2
              have hcs : Hid (cntP (fun q => q = ((t1, u1) : Pr)) (L.take (m + 1)) = cntP (fun q => q = ((t1, u1) : Pr)) (L.take m) + if p1 = t1 ∧ p2 = u1 then 1 else 0) := Lib.hid (by
                rw [htm.out, cntP_snoc]
                congr 1
                by_cases h : p1 = t1 ∧ p2 = u1
                · rw [if_pos h, if_pos (by rw [h.1, h.2])]
                · rw [if_neg h, if_neg (fun e => h ⟨congrArg Prod.fst e, congrArg Prod.snd e⟩)])
              have hcl : cntP (fun q => q = ((t1, u1) : Pr)) (L.take m) ≤ 20000 := by have := cntP_le (fun q => q = ((t1, u1) : Pr)) (L.take m); rw [List.length_take] at this; omega
              generalize cntP (fun q => q = ((t1, u1) : Pr)) (L.take m) = cn at *
              have hG2 := Lib.hid (hG.out.alloc (.cells #[.int .i64 p1, .int .i64 p2] 52))
              have hgd : Tryz.prog.eqGuardType Tryz.prog.depth 52 = false := by kernel_rfl
              have heq := fun w => eqlArr w p1 p2 t1 u1
              have z0 : (wm.alloc (.cells #[.int .i64 p1, .int .i64 p2] 52)).cell? ⟨b14, 0, none⟩ = some (.int .i64 t1) := cell_allocC y0 _
              have z1 : (wm.alloc (.cells #[.int .i64 p1, .int .i64 p2] 52)).cell? ⟨b16, 0, none⟩ = some (.int .i64 u1) := cell_allocC y1 _
              clear hX htm y0 y1
              by_cases hpe : p1 = t1 ∧ p2 = u1
              · rw [decide_eq_true hpe] at heq
                rw [if_pos hpe] at hcs
                clear hpe
                go_wp2
                go_roundw
                case rel => exact ⟨m + 1, by omega, by go_num, by rw [hcs.out]; rfl, hG2⟩
                case measure => (simp [intOf] <;> omega)
              · rw [decide_eq_false hpe] at heq
                rw [if_neg hpe] at hcs
                clear hpe
                go_wp2
                go_roundw
                case rel => exact ⟨m + 1, by omega, by go_num, by rw [hcs.out]; rfl, hG2⟩
                case measure => (simp [intOf] <;> omega)
            · obtain rfl : m = np := by omega
              have ex : L.take m = L := by rw [← hnp.out, List.take_length]
              rw [ex]
              have hcE : Hid (conE L (t1, u1) = (t1, u1, (cnt1 L (t1, u1) : Int))) := Lib.hid rfl
              have hce : cntP (fun q => q = ((t1, u1) : Pr)) L = cnt1 L (t1, u1) := rfl
              rw [hce]
              clear ex hce
              generalize cnt1 L (t1, u1) = cn at *
              by_cases hc0 : 0 < cn
              · have g1 : decide (((cn : Nat) : Int) > 0) = true := decide_eq_true (by omega)
                rw [if_pos hc0] at hst2
                have hin := hG.out.inv
                have hon := hG.out.own
                go_wp2_with (at_builtin; refine wpList_app1 (α := Cdg) rfl _ _ 24 rfl slCon hin ao co _ hon _ _ (t1, u1, (cn : Int)) ⟨[.int .i64 t1], [.int .i64 u1, .int .i64 cn], rfl, rfl, [.int .i64 u1], [.int .i64 cn], rfl, rfl, rfl⟩ rfl 1 rfl (by omega) ?_; intro a2 cap2 w5 hi5 hown5 hgr)
                have hG5 : Hid (CoG w2 φ2 ψ4 30 a2 cap2 (ys ++ [(t1, u1, (cn : Int))]) w5) := Lib.hid ⟨hi5, hown5⟩
                clear hi5 hown5 hgr hin hon y0 y1
                go_roundw
                case rel => exact ⟨j + 1, a2, cap2, ys ++ [(t1, u1, (cn : Int))], ψ4, by omega, by go_num, by simp, Lib.hid (by rw [hst2.out, ← List.append_assoc, List.map_append, hys.out, List.map_singleton, hcE.out]), L4, hG5⟩
                case measure => (simp [intOf] <;> omega)
              · rw [if_neg hc0, List.append_nil] at hst2
                obtain rfl : cn = 0 := by omega
                clear hc0
                go_wp2
                go_roundw
                case rel => exact ⟨j + 1, ao, co, ys, ψ4, by omega, by go_num, rfl, Lib.hid (by rw [hst2.out, hys.out]), L4, hG⟩
                case measure => (simp [intOf] <;> omega)
        · obtain rfl : j = n := by omega
          go_wp2
          go_roundw
          case rel => exact ⟨k + 1, ao, co, ys, ψ3, by omega, by go_num, rfl, Lib.hid (by rw [hst.out, hys.out]), hG⟩
          case measure => (simp [intOf] <;> omega)
    · obtain rfl : k = n := by omega
      have ex : crossI l L k = crossL l L := by unfold crossI crossL; rw [← hn.out, List.take_length]
      rw [ex] at hxs
      go_wp2
      go_ret2
      obtain ⟨φ', hle, hi, hs, _⟩ := hG.out.own.release hG.out.inv
      exact ⟨ao, co, φ', by rw [hR.out, hxs.out]; rfl, I2.out.call hi, by rw [hR.out, hxs.out]; exact hs⟩
end Go.Proofs.YtngogjookldidaaGreatDoor
