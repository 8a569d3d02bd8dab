/- The walks of slices.Clone at data and of cloneData. Conditions: none beyond what the claim form gives. -/
import Derived.Test.YtkfmadeeobalaaaDoorD11
import Derived.Deep.RegionWith
namespace Go.Proofs.YtkfmadeeobalaaaDoor
open Go.RowKit
set_option linter.unusedVariables false
theorem slGv : SliceTy Tryd.prog 43 54 (.agg #[.string ⟨#[]⟩, .slice none 0 0, .int .i64 0, .int .i64 0, .string ⟨#[]⟩, .slice none 0 0]) (Rep.size Giv) 96 := ⟨Tryd.underlying43, by kernel_rfl, rfl, by decide, by decide⟩
/-- A region whose ways end in one state, but for two slices. -/
theorem wp_region_cut4 {P : Program} {id : Nat} {ops : Array Oper} {b : Bool} {Q : Exit → Act → World → Prop} {a : Act} {w : World} {fr : Option Addr → Nat → Option Addr → Nat → Act} (S : Option Addr → Nat → Option Addr → Nat → World → Prop) (h1 : (Code.region id ops b).wp P (OnlyN fun a' w' => ∃ x y z u, a' = fr x y z u ∧ S x y z u w') a w) (h2 : ∀ x y z u w, S x y z u w → Q .normal (fr x y z u) w) : (Code.region id ops b).wp P Q a w :=
  Code.wp_mono (fun e a w h => by
    cases e <;> first | exact h.elim | (obtain ⟨x, y, z, u, rfl, hs⟩ := (h : ∃ x y z u, a = fr x y z u ∧ S x y z u w); exact h2 x y z u w hs)) h1
theorem gSet {B b5 : Nat} {w W : World} {φ φ' : Phi} {E : TypeId} {ao : Option Addr} {co : Nat} {xs : List Giv} (h : Inv B w φ φ' W ∧ Own B φ' W E ao co xs) (hlo : B ≤ b5) (hn : φ' b5 = none) (hne : ∀ x, ao = some x → x.block ≠ b5) (j : Nat) (v : Value) :
    Inv B w φ φ' (W.setCell ⟨b5, j, none⟩ v) ∧ Own B φ' (W.setCell ⟨b5, j, none⟩ v) E ao co xs :=
  ⟨h.1.setCell hlo hn v, h.2.other ⟨rfl, rfl, rfl, by simp [World.setCell], fun k _ hk => Below.heap_setCell _ _ _ _ (by intro e; exact hk (by rw [e]))⟩ (fun x hx e => hne x hx (Option.some.inj e))⟩
/-- Data that a call owns. -/
def GivPost (xs : List Giv) (n : Nat) (φ : Phi) (w : World) (e : Ending) (w' : World) : Prop :=
  ∃ φ' a cap, e = .returned (.slice a n cap) ∧ Inv w.heap.size w φ φ' w' ∧ Own w.heap.size φ' w' 54 a cap xs
theorem CloneGiv_any {w : World} {ac : Option Addr} {cc nc : Nat} {cs : List Giv} {φ : Phi} (hφ : Fz φ w) (sc : SlV φ ac cc cs) (hnc : Hid (cs.length = nc)) (hmc : nc ≤ 1000000) :
    Calls Tryd.prog 50 #[.slice ac nc cc] w (GivPost cs nc φ w) := by
  cases ac with
  | none =>
    have h0 : cs = [] := List.eq_nil_of_length_eq_zero (by have := sc.capn; have := sc.nil rfl; omega)
    subst h0
    have hn0 : nc = 0 := hnc.out.symm
    subst hn0
    have hcc := sc.nil rfl
    subst hcc
    have he := fun w => Lib.run_eql_slice_nil (P := Tryd.prog) w 43 54 none 0 0 0 0 Tryd.underlying43
    go_enter Tryd.func50, Tryd.ntmps50
    go_wp2
    go_ret
    exact ⟨φ, none, 0, rfl, Inv.start hφ, Own.nil _ _ _ _⟩
  | some ad =>
    have he := fun w => Lib.run_eql_slice_nil (P := Tryd.prog) w 43 54 (some ad) nc cc 0 0 Tryd.underlying43
    have hi0 := Inv.start hφ
    have hi2 := hi0.alloc (.cells #[] 54)
    have ho2 := Own.lit0 (α := Giv) (E := 54) hi0
    go_enter Tryd.func50, Tryd.ntmps50
    go_wp2_with (at_builtin; refine wpList_apps (α := Giv) rfl _ _ 43 rfl slGv hi2 _ 0 [] ho2 (some ad) cc cs sc rfl (by rw [hnc.out]; rfl) (by rw [hnc.out]; simp; omega) ?_; intro a2 cap2 w2 hi3 hown3 hgr)
    go_ret
    exact ⟨φ, a2, cap2, by simp [hnc.out], hi3, hown3⟩
set_option maxRecDepth 100000 in
set_option maxHeartbeats 2000000 in
theorem cloneData_any {w : World} {φ : Phi} (hφ : Fz φ w) (n : Nat) (hn3 : n ≤ 3000) (a : Option Addr) (cap : Nat) (l : List Giv) (sl : SlV φ a cap l) (hn : Hid (l.length = n)) (hlen : Hid (∀ g ∈ l, g.1.2.length ≤ 1000000 ∧ g.2.2.2.2.length ≤ 1000000)) :
    Calls Tryd.prog 47 #[.slice a n cap] w (GivPost l n φ w) := by
  have hSt : Hid (Inv w.heap.size w φ φ w ∧ Own w.heap.size φ w 54 none 0 (l.take 0)) := Lib.hid ⟨Inv.start hφ, Own.nil _ _ _ _⟩
  go_enter Tryd.func47, Tryd.ntmps47
  go_wp2
  go_loopw [3, 8] (fun v i wr => ∃ (k : Nat) (φ' : Phi) (ao : Option Addr) (co : Nat), k ≤ n ∧ v = .slice ao k co ∧ i = .int .i64 k ∧ Hid (φ.le φ') ∧ Hid (Inv w.heap.size w φ φ' wr ∧ Own w.heap.size φ' wr 54 ao co (l.take k))) (fun _ i _ => n - (intOf i).toNat)
  case atStart => exact ⟨0, φ, none, 0, Nat.zero_le _, rfl, rfl, Lib.hid (Phi.le_refl _), hSt⟩
  case round =>
    clear hSt
    obtain ⟨k, φ3, ao, co, hk, rfl, rfl, L3, hS⟩ := hrel
    by_cases hlt : k < n
    · obtain ⟨b1, o1, rfl, f⟩ := (sl.mono L3.out).givD hn hlt
      obtain ⟨ar, cr, as_, cs_, sr, ss, f⟩ := f k hlt
      obtain ⟨_, c0, c1, c2, c3, c4, c5⟩ := f wr hS.out.1.fz
      have hll := hlen.out (l.getD k giv0) (by rw [getD_elem0 giv0 _ _ (by rw [hn.out]; exact hlt)]; exact List.getElem_mem _)
      have HTK : Hid (l.take (k + 1) = l.take k ++ [l.getD k giv0]) := Lib.hid (by
        rw [List.take_add_one, List.getElem?_eq_getElem (by rw [hn.out]; exact hlt), List.getD_eq_getElem?_getD, List.getElem?_eq_getElem (by rw [hn.out]; exact hlt)]; rfl)
      have HTL : Hid ((l.take k).length = k) := Lib.hid (by rw [List.length_take, hn.out, Nat.min_eq_left hk])
      clear f
      generalize l.getD k giv0 = g at *
      obtain ⟨⟨nm, row⟩, kd, nn, sv, set⟩ := g
      dsimp only at c0 c1 c2 c3 c4 c5 sr ss hll
      obtain ⟨nr, hnr⟩ : ∃ j, Hid (row.length = j) := ⟨_, Lib.hid rfl⟩
      obtain ⟨ns, hns⟩ : ∃ j, Hid (set.length = j) := ⟨_, Lib.hid rfl⟩
      rw [hnr.out] at c1 hll
      rw [hns.out] at c5 hll
      have hl1 := hll.1
      have hl2 := hll.2
      have hk0 := Blk.new wr #[.string nm, .slice ar nr cr, .int .i64 kd, .int .i64 nn, .string sv, .slice as_ ns cs_] 54
      have hS1 := Lib.hid (And.intro (hS.out.1.alloc (.cells #[.string nm, .slice ar nr cr, .int .i64 kd, .int .i64 nn, .string sv, .slice as_ ns cs_] 54)) (hS.out.2.alloc (.cells #[.string nm, .slice ar nr cr, .int .i64 kd, .int .i64 nn, .string sv, .slice as_ ns cs_] 54)))
      have HK := Lib.hid hk0
      have HN3 : Hid (φ3 wr.heap.size = none) := Lib.hid (hS.out.1.fz.new_none (Nat.le_refl _))
      have HLO : Hid (w.heap.size ≤ wr.heap.size) := Lib.hid hS.out.1.size
      have HNE : Hid (∀ x, ao = some x → x.block ≠ wr.heap.size) := Lib.hid (fun x hx => by have := (hS.out.2.lt x hx).2; omega)
      have SR := Lib.hid sr
      have SS := Lib.hid ss
      clear hk0 sr ss hS hll
      go_wp2
      generalize wr.alloc (.cells #[.string nm, .slice ar nr cr, .int .i64 kd, .int .i64 nn, .string sv, .slice as_ ns cs_] 54) = wy at *
      generalize wr.heap.size = b5 at *
      have hS2 : Hid (Inv w.heap.size w φ φ3 wy.drew ∧ Own w.heap.size φ3 wy.drew 54 ao co (l.take k)) := Lib.hid ⟨hS1.out.1.drew, hS1.out.2.drew⟩
      have y1 : wy.cell? ⟨b5, 1, none⟩ = some (.slice ar nr cr) := HK.out.cell 1
      have y5 : wy.cell? ⟨b5, 5, none⟩ = some (.slice as_ ns cs_) := HK.out.cell 5
      have f1 := HK.out.frz 1
      have f5 := HK.out.frz 5
      apply wp_region_cut4 (S := fun x1 x2 x3 x4 W => ∃ φ6, Hid (φ3.le φ6 ∧ (Inv w.heap.size w φ φ6 W ∧ Own w.heap.size φ6 W 54 ao co (l.take k)) ∧ SlV φ6 x1 x2 row ∧ SlV φ6 x3 x4 set ∧ φ6 b5 = none ∧ Blk W b5 #[.string nm, .slice x1 nr x2, .int .i64 kd, .int .i64 nn, .string sv, .slice x3 ns x4] 54))
      case h1 =>
        go_region_with (first
          | (go_at_call 72; (with_reducible refine (Clone_n (φ := φ3) hS2.out.1.fz SR.out hnr hl1).mono ?_); rintro e w5 ⟨a5, c5, rfl, hi5, ho5⟩; obtain ⟨φ5, l5, i5, s5, _⟩ := ho5.release hi5; have hS5 := Lib.hid (And.intro (hS2.out.1.call i5) (hS2.out.2.call i5)); have HK5 : Hid (Blk w5 b5 _ 54) := Lib.hid (HK.out.callB (w := wy.drew) i5.bel); have N5 := Lib.hid ((i5.new _ HK.out.lt).trans HN3.out); have L5 := Lib.hid l5; have S5 := Lib.hid s5; have z1 := HK5.out.cell 1; have z5 := HK5.out.cell 5; have g1 := HK5.out.frz 1; have g5 := HK5.out.frz 5; have SS5 := Lib.hid (SS.out.mono l5); clear hi5 ho5 l5 i5 s5)
          | (go_at_call 72; (with_reducible refine (Clone_n (φ := φ5) hS5.out.1.fz SS5.out hns hl2).mono ?_); rintro e w6 ⟨a6, c6, rfl, hi6, ho6⟩; obtain ⟨φ6, l6, i6, s6, _⟩ := ho6.release hi6; have hS6 := Lib.hid (And.intro (hS5.out.1.call i6) (hS5.out.2.call i6)); have HK6 : Hid (Blk w6 b5 _ 54) := Lib.hid (HK5.out.callB i6.bel); have N6 := Lib.hid ((i6.new _ HK5.out.lt).trans N5.out); have L6 := Lib.hid (L5.out.trans l6); have S56 := Lib.hid (S5.out.mono l6); have S6 := Lib.hid s6; have z1 := HK6.out.cell 1; have z5 := HK6.out.cell 5; have g1 := HK6.out.frz 1; have g5 := HK6.out.frz 5; clear hi6 ho6 l6 i6 s6))
        all_goals first
          | exact onlyN_mk ⟨a5, c5, a6, c6, by rfl, φ6, Lib.hid ⟨L6.out, gSet (gSet hS6.out HLO.out N6.out HNE.out 1 (.slice a5 nr c5)) HLO.out N6.out HNE.out 5 (.slice a6 ns c6), S56.out, S6.out, N6.out, (HK6.out.set 1 (.slice a5 nr c5)).set 5 (.slice a6 ns c6)⟩⟩
          | exact onlyN_mk ⟨a5, c5, a6, c6, by rfl, φ6, Lib.hid ⟨L6.out, gSet (gSet hS6.out HLO.out N6.out HNE.out 5 (.slice a6 ns c6)) HLO.out N6.out HNE.out 1 (.slice a5 nr c5), S56.out, S6.out, N6.out, (HK6.out.set 5 (.slice a6 ns c6)).set 1 (.slice a5 nr c5)⟩⟩
      case h2 =>
      intro x1 x2 x3 x4 W hW
      obtain ⟨φ6, hW⟩ := hW
      have HW := Lib.hid hW
      have y0 : W.cell? ⟨b5, 0, none⟩ = some (.string nm) := hW.2.2.2.2.2.cell 0
      have y1 : W.cell? ⟨b5, 1, none⟩ = some (.slice x1 nr x2) := hW.2.2.2.2.2.cell 1
      have y2 : W.cell? ⟨b5, 2, none⟩ = some (.int .i64 kd) := hW.2.2.2.2.2.cell 2
      have y3 : W.cell? ⟨b5, 3, none⟩ = some (.int .i64 nn) := hW.2.2.2.2.2.cell 3
      have y4 : W.cell? ⟨b5, 4, none⟩ = some (.string sv) := hW.2.2.2.2.2.cell 4
      have y5 : W.cell? ⟨b5, 5, none⟩ = some (.slice x3 ns x4) := hW.2.2.2.2.2.cell 5
      have hin := Lib.hid hW.2.1.1
      have hon := Lib.hid hW.2.1.2
      clear hW
      go_wp2_with (at_builtin; (refine wpList_app1F (α := Giv) rfl _ _ 43 rfl slGv hin.out ao co _ hon.out _ _ ((nm, row), kd, nn, sv, set) ⟨[.string nm, .slice x1 nr x2], [.int .i64 kd, .int .i64 nn, .string sv, .slice x3 ns x4], rfl, ⟨[.string nm], [.slice x1 nr x2], rfl, rfl, ⟨x1, x2, by rw [hnr.out], HW.out.2.2.1⟩⟩, [.int .i64 kd], [.int .i64 nn, .string sv, .slice x3 ns x4], rfl, rfl, [.int .i64 nn], [.string sv, .slice x3 ns x4], rfl, rfl, [.string sv], [.slice x3 ns x4], rfl, rfl, ⟨x3, x4, by rw [hns.out], HW.out.2.2.2.1⟩⟩ (by rw [HTL.out]; rfl) 1 rfl (by rw [HTL.out]; omega) ?_; intro a8 c8 w8 hi8 ho8 hg8 hf8))
      go_roundw
      case rel => exact ⟨k + 1, φ6, a8, c8, by omega, by rw [hn.out, Nat.min_eq_left hk], by go_num, Lib.hid (L3.out.trans HW.out.1), by rw [HTK.out]; exact Lib.hid ⟨hi8, ho8⟩⟩
      case measure => (simp [intOf] <;> omega)
    · obtain rfl : k = n := by omega
      have HTK : Hid (l.take k = l) := Lib.hid (List.take_of_length_le (by rw [hn.out]; exact Nat.le_refl _))
      rw [HTK.out] at hS
      go_wp2
      go_ret
      exact ⟨φ3, ao, co, rfl, hS.out.1, hS.out.2⟩
end Go.Proofs.YtkfmadeeobalaaaDoor
