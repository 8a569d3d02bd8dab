/- The walks of the reference's known and Within. Conditions: none beyond what the claim form gives. -/
import Derived.Test.YtapkkplndhbapaaDoorR4
namespace Go.Proofs.YtapkkplndhbapaaDoor
open Go.RowKit
set_option linter.unusedVariables false

theorem coded_at {l : List Nod} {cs : List Int} {n k : Nat} (h0 : treeF l = 0) (hn : Hid (cs.length = n)) (hz : Hid (∀ i, i < k → miss5 l cs i = 0)) (hk : k < n) (h : miss5 l cs k = 5) : codedF l cs = 5 := by
  rw [codedF, if_neg (by simp [h0]), hn.out, scan_stop hz.out hk (by rw [h]; decide), h]
set_option maxHeartbeats 1000000 in
theorem known_any {w : World} {a : Option Addr} {c n : Nat} {l : List Nod} {φ : Phi} (hφ : Fz φ w) (s : SlV φ a c l) (hn : Hid (l.length = n)) (hm : n ≤ 9223372036854775807) {ac : Option Addr} {cc nc : Nat} {cs : List Int} (sc : SlV φ ac cc cs) (hnc : Hid (cs.length = nc)) (hmc : nc ≤ 9223372036854775807) :
    Calls Tryd.prog 32 #[.slice a n c, .slice ac nc cc] w (IntB (codedF l cs) w) := by
  go_enter Tryd.func32, Tryd.ntmps32
  go_wp2_with fail
  refine (CheckFrame_any n a c l w φ hφ s hn hm).mono ?_
  rintro e w1 ⟨rfl, hb⟩
  obtain ⟨q, hq⟩ : ∃ q, Hid (treeF l = q) := ⟨_, Lib.hid rfl⟩
  rw [hq.out]
  have HB := Lib.hid hb
  clear hb
  by_cases h0 : q = 0
  case neg =>
    have hg : ((q : Int) != 0) = true := by simp [h0]
    have H0 := Lib.hid h0
    clear h0
    go_wp2
    go_ret
    exact ⟨ret_int (by rw [codedF, hq.out, if_pos H0.out]), HB.out⟩
  subst h0
  have HFR : Hid (FrOk l n) := Lib.hid (by have := treeF_zero hq.out; rw [hn.out] at this; exact this.toFrOk)
  go_wp2
  go_loopw [15] (fun i wr => ∃ k : Nat, k ≤ nc ∧ i = .int .i64 k ∧ Hid (∀ i, i < k → miss5 l cs i = 0) ∧ Below w.heap.size w wr) (fun i _ => nc - (intOf i).toNat)
  case atStart => exact ⟨0, Nat.zero_le _, rfl, none_yet _, HB.out⟩
  case round =>
    clear HB
    obtain ⟨k, hk, rfl, hz, hbel⟩ := hrel
    by_cases hlt : k < nc
    · obtain ⟨b, off, rfl, f⟩ := sc.intsD hnc hlt
      obtain ⟨hb, c1⟩ := f k hlt _ (hφ.below hbel)
      have hm5 : Hid (miss5 l cs k = if (ix l (cs.getD k 0)).isSome = true then 0 else 5) := Lib.hid rfl
      clear f
      generalize cs.getD k 0 = x at *
      have HB := Lib.hid hbel
      obtain ⟨q, hqx⟩ : ∃ q, Hid (ix l x = q) := ⟨_, Lib.hid rfl⟩
      go_wp2_with fail
      refine (find_any (hφ.below HB.out) s HFR x).mono ?_
      rintro e w2 ⟨rfl, hb2⟩
      have HB2 := Lib.hid (HB.out.trans (hb2.mono HB.out.size))
      clear hb2 hbel
      cases q with
      | none =>
        rw [fdI_none hqx.out]
        go_wp2
        go_ret
        exact ⟨ret_int (coded_at hq.out hnc hz hlt (by rw [hm5.out, hqx.out]; rfl)).symm, HB2.out⟩
      | some i =>
        rw [fdI_some hqx.out]
        have hi0 : decide ((i : Int) < 0) = false := decide_eq_false (by omega)
        go_wp2
        go_roundw
        case rel => exact ⟨k + 1, by omega, by go_num, next_ok hz (by rw [hm5.out, hqx.out]; rfl), HB2.out⟩
        case measure => (simp [intOf] <;> omega)
    · obtain rfl : k = nc := by omega
      go_wp2
      go_ret
      exact ⟨ret_int (by rw [codedF, if_neg (by simp [hq.out]), hnc.out, scan_zero _ _ hz.out]), hbel⟩
theorem codedF_one {l : List Nod} {x : Int} (h : codedF l [x] = 0) : treeF l = 0 ∧ (ix l x).isSome = true := by
  unfold codedF at h
  split at h
  · next h1 => exact absurd h h1
  · next h1 =>
    refine ⟨by simpa using h1, ?_⟩
    have := scan_all _ h 0 (by simp)
    unfold miss5 at this
    cases hh : (ix l ([x].getD 0 0)).isSome
    · rw [hh] at this; cases this
    · exact hh
/-- A code and all below it. -/
def witL (l : List Nod) (c : Int) (k : Nat) : List Int := ((l.take k).filter (fun x => decide (c ∈ upL l x.1))).map (·.1)
noncomputable def witF (l : List Nod) (c : Int) : List Int × Int := if codedF l [c] ≠ 0 then ([], codedF l [c]) else (witL l c l.length, 0)
theorem witL_snoc (l : List Nod) (c : Int) (k : Nat) (h : k < l.length) : witL l c (k + 1) = if c ∈ upL l (cod l k) then witL l c k ++ [cod l k] else witL l c k := by
  unfold witL
  rw [take_snocD nod0 l k _ rfl h, List.filter_append, List.map_append]
  show _ = if c ∈ upL l (l.getD k nod0).1 then _ ++ [(l.getD k nod0).1] else _
  generalize l.getD k nod0 = X
  by_cases hc : c ∈ upL l X.1 <;> simp [hc]
theorem witL_len (l : List Nod) (c : Int) (k : Nat) : (witL l c k).length ≤ k := by
  unfold witL
  rw [List.length_map]
  exact Nat.le_trans (List.length_filter_le _ _) (by rw [List.length_take]; omega)
set_option maxRecDepth 100000 in
set_option maxHeartbeats 1000000 in
theorem Within_any {w : World} {a : Option Addr} {c n : Nat} {l : List Nod} {φ : Phi} (hφ : Fz φ w) (s : SlV φ a c l) (hn : Hid (l.length = n)) (hm : n ≤ 9223372036854775807) (x : Int) :
    Calls Tryd.prog 14 #[.slice a n c, .int .i64 x] w (SlPost (witF l x) φ w) := by
  go_enter Tryd.func14, Tryd.ntmps14
  go_wp2_with fail
  obtain ⟨φ1, hle, hi1, sx⟩ := SlV.lit (α := Int) hφ 3 (xs := [x]) (arr := #[.int .i64 x]) (RepL.single rfl) (by simp [maxLen])
  refine (known_any hi1.fz (s.mono hle) hn hm sx (Lib.hid rfl) (by simp)).mono ?_
  rintro e w1 ⟨rfl, hb⟩
  have HB := Lib.hid (hi1.bel.trans (hb.mono hi1.bel.size))
  obtain ⟨q, hq⟩ : ∃ q, Hid (codedF l [x] = q) := ⟨_, Lib.hid rfl⟩
  rw [hq.out]
  clear hb hi1 sx hle
  by_cases h0 : q = 0
  case neg =>
    have hg : ((q : Int) != 0) = true := by simp [h0]
    have H0 := Lib.hid h0
    clear h0
    go_wp2
    go_ret2
    exact ⟨none, 0, φ, by rw [witF, hq.out, if_pos H0.out]; rfl, (Inv.start hφ).callB HB.out, by rw [witF, hq.out, if_pos H0.out]; exact SlV.empty _⟩
  subst h0
  have e : Hid (witF l x = (witL l x n, 0)) := Lib.hid (by rw [witF, hq.out, if_neg (by simp), hn.out])
  have HT : Hid (TrOk l n) := Lib.hid (by
    have h1 := hq.out
    unfold codedF at h1
    split at h1
    · next h2 => exact absurd h1 h2
    · next h2 => have := treeF_zero (by simpa using h2 : treeF l = 0); rwa [hn.out] at this)
  have hn6 : n ≤ 600 := HT.out.pos.2
  have hSt : Hid (OwSt w1 φ 3 none 0 (witL l x 0) w1) := Lib.hid ⟨Inv.start (hφ.below HB.out), Own.nil _ _ _ _⟩
  go_wp2
  go_loopw [7, 19] (fun o i wr => ∃ (k : Nat) (ao : Option Addr) (co : Nat) (xs : List Int), k ≤ n ∧ i = .int .i64 k ∧ o = .slice ao xs.length co ∧ Hid (witL l x k = xs) ∧ Hid (OwSt w1 φ 3 ao co xs wr)) (fun _ i _ => n - (intOf i).toNat)
  case atStart => exact ⟨0, none, 0, [], Nat.zero_le _, rfl, rfl, Lib.hid rfl, hSt⟩
  case round =>
    clear hSt
    obtain ⟨k, ao, co, xs, hk, rfl, rfl, hxs, hSt⟩ := hrel
    by_cases hlt : k < n
    · obtain ⟨b, off, rfl, f⟩ := s.nodesD hn hlt
      obtain ⟨hb, c1, c2, c3⟩ := f k hlt wr hSt.out.inv.fz
      have hsn := Lib.hid (witL_snoc l x k (by rw [hn.out]; exact hlt))
      have hvl : Hid ((ix l (l.getD k nod0).1).isSome = true) := Lib.hid (by have := HT.out.ix_of hlt; rw [show (l.getD k nod0).1 = cod l k from rfl, this]; rfl)
      have hxl : xs.length ≤ 600 := by have := witL_len l x k; rw [hxs.out] at this; omega
      rw [show cod l k = (l.getD k nod0).1 from rfl, hxs.out] at hsn
      clear f
      generalize (l.getD k nod0).1 = m at *
      generalize (l.getD k nod0).2.1 = pa at *
      generalize (l.getD k nod0).2.2 = ti at *
      have hS1 := Lib.hid (hSt.out.alloc (.cells #[.int .i64 m, .int .i64 pa, .string ti] 38))
      have hul := (upL_len HT.out (.inr hvl.out))
      obtain ⟨nu, hnu⟩ : ∃ nu, Hid ((upL l m).length = nu) := ⟨_, Lib.hid rfl⟩
      rw [hnu.out] at hul
      clear hSt
      go_wp2_with fail
      refine (lineage_any hS1.out.inv.fz s HT m hvl.out).mono ?_
      rintro e w2 ⟨au, cu, φ2, rfl, hi2, su⟩
      rw [hnu.out]
      have hS2 := Lib.hid (hS1.out.callB hi2.bel)
      have hF2 := Lib.hid hi2.fz
      have x0 : w2.cell? ⟨wr.heap.size, 0, none⟩ = some (.int .i64 m) := (hi2.bel.cell (p := ⟨wr.heap.size, 0, none⟩) (by simp)).trans (box_at 0)
      clear hi2 hS1
      obtain ⟨bb, hbb⟩ : ∃ bb, Hid (decide (x ∈ upL l m) = bb) := ⟨_, Lib.hid rfl⟩
      go_wp2_with fail
      refine (Contains_b nu au cu _ x _ _ hF2.out su hnu (by omega) hbb.out).mono ?_
      rintro e w' ⟨rfl, rfl⟩
      cases bb with
      | false =>
        have hno : Hid (witL l x (k + 1) = xs) := Lib.hid (by rw [hsn.out, if_neg (by simpa using hbb.out)])
        go_wp2
        go_roundw
        case rel => exact ⟨k + 1, ao, co, xs, by omega, by go_num, rfl, hno, hS2⟩
        case measure => (simp [intOf] <;> omega)
      | true =>
        have hyes : Hid (witL l x (k + 1) = xs ++ [m]) := Lib.hid (by rw [hsn.out, if_pos (by simpa using hbb.out)])
        have hin := hS2.out.inv
        have hon := hS2.out.own
        go_wp2_with (at_builtin; refine wpList_app1 (α := Int) rfl _ _ 27 rfl slI hin ao co _ hon _ _ m rfl rfl 1 rfl (by omega) ?_; intro a2 cap2 w4 hi4 hown4 hgr)
        have hS4 : Hid (OwSt w1 φ 3 a2 cap2 (xs ++ [m]) w4) := Lib.hid ⟨hi4, hown4⟩
        clear hi4 hown4 hgr hin hon
        go_roundw
        case rel => exact ⟨k + 1, a2, cap2, xs ++ [m], by omega, by go_num, by simp, hyes, hS4⟩
        case measure => (simp [intOf] <;> omega)
    · obtain rfl : k = n := by omega
      go_wp2
      go_ret2
      obtain ⟨φ', hle, hi, hs, _⟩ := hSt.out.own.release hSt.out.inv
      exact ⟨ao, co, φ', by rw [e.out, hxs.out]; rfl, ((Inv.start hφ).callB HB.out).call hi, by rw [e.out, hxs.out]; exact hs⟩
end Go.Proofs.YtapkkplndhbapaaDoor
