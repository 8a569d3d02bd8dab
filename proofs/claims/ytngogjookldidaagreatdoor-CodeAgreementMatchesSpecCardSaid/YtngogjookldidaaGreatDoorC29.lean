/- The walk of Alpha, the reference's side. Conditions: the library's table of powers of ten reads as it was laid. -/
import Derived.Test.YtngogjookldidaaGreatDoorCH
namespace Go.Proofs.YtngogjookldidaaGreatDoor
open Go.RowKit
set_option linter.unusedVariables false
set_option linter.unusedSimpArgs false
theorem cod_ix {l : List Nod} {c : Int} (h : c ∈ l.map (·.1)) : (ix l c).isSome = true := by
  obtain ⟨x, hx, rfl⟩ := List.mem_map.1 h
  obtain ⟨i, hi, e⟩ := List.getElem_of_mem hx
  cases hq : ix l x.1 with
  | some j => rfl
  | none => exact absurd (by unfold cod; rw [getD_elem0 _ _ _ hi, e]) (ixTo_none hq i hi)
theorem codesG_getD {g : List Cdg} {n j : Nat} (h : g.length = n) (hj : j < n) : (codesG g).getD j 0 = (g.getD j cdg0).2.2 := by
  unfold codesG
  have h1 : j < g.length := by omega
  rw [getD_elem0 _ _ _ (by rw [List.length_map]; exact h1), getD_elem0 _ _ _ h1, List.getElem_map]
theorem FrX.up {φ : Phi} {v : Value} {x : Rat} {N D N' D' : Nat} (h : FrX φ v x N D) (hN : N ≤ N') (hD : D ≤ D') : FrX φ v x N' D' := by
  obtain ⟨neg, n, d, a1, c1, a2, c2, rfl, s1, s2, h0, h1, h2, r⟩ := h
  exact ⟨neg, n, d, a1, c1, a2, c2, rfl, s1, s2, h0, Nat.le_trans h1 hN, Nat.le_trans h2 hD, r⟩
theorem RPlus_K {P : Phi → World → Prop} (hP : StC P) {M : Nat} {φ : Phi} {W : World} (hD : Hid (RdivOk M)) (hM : LenB M) {v1 v2 : Value} {x y : Rat} {N1 D1 N2 D2 : Nat} {ψ ψ2 : Phi} (h1 : Hid (FrX ψ v1 x N1 D1)) (hl : Hid (ψ.le φ)) (h2 : Hid (FrX ψ2 v2 y N2 D2)) (hl2 : Hid (ψ2.le φ)) (hB : Hid (N1 * D2 + N2 * D1 ≤ M ∧ D1 * D2 ≤ M)) {N D : Nat} (hC : Hid (CapOk (x + y) (N1 * D2 + N2 * D1) (D1 * D2) N D)) (hS : Hid (P φ W)) :
    Calls Tryz.prog 33 #[v1, v2] W (FrC P φ (x + y) N D) :=
  (RPlus_cap hD hM (hP.fz hS.out) (h1.out.mono hl.out) (h2.out.mono hl2.out) hB.out.1 hB.out.2 hC).mono (fun en w' hp => FrC.of hP (Nat.le_refl _) (Nat.le_refl _) hS hp)
/-- A result's cell. -/
structure AgA (w0 : World) (φ0 : Phi) (b6 : Nat) (φ : Phi) (W : World) : Prop where
  inv : Inv w0.heap.size w0 φ0 φ W
  k6 : Blk W b6 #[.string ⟨#[]⟩, .string ⟨#[]⟩] 32
  lo : w0.heap.size ≤ b6
  fr : φ b6 = none
/-- .. a number in a box, and a slice in the making. -/
structure AgS (w0 : World) (φ0 : Phi) (b6 bx : Nat) (cs : Array Value) (ao : Option Addr) (co : Nat) (xs : List Int) (φ : Phi) (W : World) : Prop where
  inv : Inv w0.heap.size w0 φ0 φ W
  k6 : Blk W b6 #[.string ⟨#[]⟩, .string ⟨#[]⟩] 32
  kx : Blk W bx cs 59
  own : Own w0.heap.size φ W 3 ao co xs
  lo : w0.heap.size ≤ b6 ∧ w0.heap.size ≤ bx
  ne : b6 ≠ bx
  far : ∀ x, ao = some x → x.block ≠ b6 ∧ x.block ≠ bx
  fr : φ b6 = none ∧ φ bx = none
section
variable {w0 W w' : World} {φ0 φ φ' : Phi} {b6 bx : Nat} {cs : Array Value} {ao a' : Option Addr} {co c' : Nat} {xs xs' : List Int}
theorem AgA.call (h : AgA w0 φ0 b6 φ W) (hi : Inv W.heap.size W φ φ' w') : AgA w0 φ0 b6 φ' w' := ⟨h.inv.call hi, h.k6.callB hi.bel, h.lo, (hi.new _ h.k6.lt).trans h.fr⟩
theorem AgA.callB (h : AgA w0 φ0 b6 φ W) (hb : Below W.heap.size W w') : AgA w0 φ0 b6 φ w' := h.call ((Inv.start h.inv.fz).callB hb)
theorem AgA.sta (w0 : World) (φ0 : Phi) (b6 : Nat) : StC (fun φ W => AgA w0 φ0 b6 φ W) := ⟨fun h => h.inv.fz, fun h hi => h.call hi⟩
theorem AgS.call (h : AgS w0 φ0 b6 bx cs ao co xs φ W) (hi : Inv W.heap.size W φ φ' w') : AgS w0 φ0 b6 bx cs ao co xs φ' w' :=
  ⟨h.inv.call hi, h.k6.callB hi.bel, h.kx.callB hi.bel, h.own.call hi, h.lo, h.ne, h.far, (hi.new _ h.k6.lt).trans h.fr.1, (hi.new _ h.kx.lt).trans h.fr.2⟩
theorem AgS.callB (h : AgS w0 φ0 b6 bx cs ao co xs φ W) (hb : Below W.heap.size W w') : AgS w0 φ0 b6 bx cs ao co xs φ w' := h.call ((Inv.start h.inv.fz).callB hb)
theorem AgS.alloc (h : AgS w0 φ0 b6 bx cs ao co xs φ W) (o : Obj) : AgS w0 φ0 b6 bx cs ao co xs φ (W.alloc o) := h.callB ((Below.refl _ _).alloc (Nat.le_refl _) o)
theorem AgS.sta (w0 : World) (φ0 : Phi) (b6 bx : Nat) (cs : Array Value) (ao : Option Addr) (co : Nat) (xs : List Int) : StC (fun φ W => AgS w0 φ0 b6 bx cs ao co xs φ W) := ⟨fun h => h.inv.fz, fun h hi => h.call hi⟩
theorem AgA.box (h : AgA w0 φ0 b6 φ W) (cs : Array Value) : AgS w0 φ0 b6 W.heap.size cs none 0 [] φ (W.alloc (.cells cs 59)) := by
  have h1 := h.k6.lt
  exact ⟨h.inv.alloc _, h.k6.alloc _, Blk.new _ _ _, Own.nil _ _ _ _, ⟨h.lo, h.inv.size⟩, by omega, (fun x e => by cases e), h.fr, h.inv.fz.new_none (Nat.le_refl _)⟩
theorem AgS.app (h : AgS w0 φ0 b6 bx cs ao co xs φ W) (hi : Inv w0.heap.size w0 φ0 φ w') (ho : Own w0.heap.size φ w' 3 a' c' xs') (hg : W.grownBy w' (ao.map (·.block))) (hf : ∀ x, a' = some x → ao.map (·.block) = some x.block ∨ W.heap.size ≤ x.block) : AgS w0 φ0 b6 bx cs a' c' xs' φ w' := by
  have h6 := h.k6.lt
  have hx := h.kx.lt
  have n6 : some b6 ≠ ao.map (·.block) := fun e => by
    cases ao with
    | none => cases e
    | some x => exact (h.far x rfl).1 (Option.some.inj e).symm
  have nx : some bx ≠ ao.map (·.block) := fun e => by
    cases ao with
    | none => cases e
    | some x => exact (h.far x rfl).2 (Option.some.inj e).symm
  refine ⟨hi, (hg.block b6 h6 n6).trans h.k6, (hg.block bx hx nx).trans h.kx, ho, h.lo, h.ne, fun x e => ?_, h.fr⟩
  rcases hf x e with q | q
  · exact ⟨fun e2 => n6 (by rw [q, e2]), fun e2 => nx (by rw [q, e2])⟩
  · exact ⟨by omega, by omega⟩
theorem AgS.set1 (h : AgS w0 φ0 b6 bx cs ao co xs φ W) (j : Nat) (u : Value) : AgS w0 φ0 b6 bx (cs.setIfInBounds j u) ao co xs φ (W.setCell ⟨bx, j, none⟩ u) := by
  have hg := grown_setC W bx j u
  exact ⟨h.inv.setCell h.lo.2 h.fr.2 u, Blk.grown h.k6 hg h.ne, h.kx.set j u, h.own.other hg (fun x e e2 => (h.far x e).2 (Option.some.inj e2)), h.lo, h.ne, h.far, h.fr⟩
theorem AgS.put3 {c0 c1 c2 : Value} (h : AgS w0 φ0 b6 bx #[c0, c1, c2] ao co xs φ W) (u v t : Value) : AgS w0 φ0 b6 bx #[u, v, t] ao co xs φ (((W.setCell ⟨bx, 0, none⟩ u).setCell ⟨bx, 1, none⟩ v).setCell ⟨bx, 2, none⟩ t) := ((h.set1 0 u).set1 1 v).set1 2 t
theorem AgS.done (h : AgS w0 φ0 b6 bx cs ao co xs φ W) : ∃ φ', φ.le φ' ∧ φ0.le φ' ∧ SlV φ' ao co xs ∧ KrB w0 b6 bx cs φ' W := by
  obtain ⟨φ', hle, hi, hs, _⟩ := h.own.release h.inv
  exact ⟨φ', hle, hi.le, hs, ⟨hi.bel, hi.fz, h.k6, h.lo.1⟩, h.kx⟩
theorem KrB.callB {b8 b23 : Nat} (h : KrB w0 b8 b23 cs φ W) (hb : Below W.heap.size W w') : KrB w0 b8 b23 cs φ w' := h.call ((Inv.start h.a.fz).callB hb)
end
theorem cods_getD {l : List Nod} {n k : Nat} (h : l.length = n) (hk : k < n) : (l.map (·.1)).getD k 0 = (l.getD k nod0).1 := by
  have h1 : k < l.length := by omega
  rw [getD_elem0 _ _ _ (by rw [List.length_map]; exact h1), getD_elem0 _ _ _ h1, List.getElem_map]
set_option maxRecDepth 100000 in
set_option maxHeartbeats 8000000 in
theorem RAlpha_any {M : Nat} (hD : Hid (RdivOk M)) (hM : LenB M) {Z : Nat} (hZ : Hid (lb ^ 11 ≤ Z)) (hZM : Hid (1 ≤ Z ∧ Z * 100000000000000000000 ≤ M)) {w : World} {a : Option Addr} {c n : Nat} {l : List Nod} {φ : Phi} (hφ : Fz φ w) (hp : PowP φ) (s : SlV φ a c l) (hn : Hid (l.length = n)) (hm : n ≤ 9223372036854775807) {ac : Option Addr} {cc nc : Nat} {cs : List Cdg} (sc : SlV φ ac cc cs) (hnc : Hid (cs.length = nc)) (hmc : nc ≤ 9223372036854775807) (tr : Bool) {S T : ByteArray} {F : Int} (hR : Hid (alpF l cs tr = (S, T, F))) :
    Calls Tryz.prog 10 #[.slice a n c, .slice ac nc cc, .bool tr] w (fun e w' => e = .returned (.tuple #[.agg #[.string S, .string T], .int .i64 F]) ∧ Below w.heap.size w w') := by
  have hK0 : Hid (AgA w φ w.heap.size φ (w.alloc (.cells #[.string ⟨#[]⟩, .string ⟨#[]⟩] 32))) := Lib.hid ⟨(Inv.start hφ).alloc _, Blk.new _ _ _, Nat.le_refl _, hφ.new_none (Nat.le_refl _)⟩
  have HPW := Lib.hid hp
  obtain ⟨eb, heb⟩ : ∃ q, Hid (frcF l cs = q) := ⟨_, Lib.hid rfl⟩
  by_cases h0 : eb = 0
  case neg =>
    have hg : ((eb : Int) != 0) = true := by simp [h0]
    have hR2 : Hid ((S, T, F) = (⟨#[]⟩, ⟨#[]⟩, eb)) := Lib.hid (by rw [← hR.out, alpF, heb.out, if_pos h0])
    clear h0
    go_enter Tryz.func10, Tryz.ntmps10
    go_wp2_with fail
    refine (RCheckCodings_any hK0.out.inv.fz s hn hm sc hnc hmc).mono ?_
    rintro e w1 ⟨rfl, hb1⟩
    rw [heb.out]
    have H1 := Lib.hid (hK0.out.callB hb1)
    clear hb1 hK0
    generalize hb6 : w.heap.size = b6 at *
    have r0 : w1.cell? ⟨b6, 0, none⟩ = some (.string ⟨#[]⟩) := H1.out.k6.cell 0
    have r1' : w1.cell? ⟨b6, 1, none⟩ = some (.string ⟨#[]⟩) := H1.out.k6.cell 1
    have r2' := H1.out.k6.frz 0
    have r3' := H1.out.k6.frz 1
    go_wp2
    have hZ := Lib.hid ((H1.out.k6.set 0 (.string ⟨#[]⟩)).set 1 (.string ⟨#[]⟩))
    have e0 : _ = some (Value.string ⟨#[]⟩) := hZ.out.cell 0
    have e1 : _ = some (Value.string ⟨#[]⟩) := hZ.out.cell 1
    (try simp only [Exit.inBlock, Exit.then])
    refine bodyPost_ret (v := .tuple #[.agg #[.string ⟨#[]⟩, .string ⟨#[]⟩], .int .i64 eb]) (by simp [results, Tryz.results10, go_sem, e0, e1]) rfl ?_
    have h := hR2.out
    cases h
    subst hb6
    exact ⟨rfl, Below_grown (Below_grown H1.out.inv.bel (grown_setC _ _ _ _) H1.out.lo) (grown_setC _ _ _ _) H1.out.lo⟩
  subst h0
  have hok : Hid (TrOk l n) := Lib.hid (by have := treeF_zero (cdg_ok (Lib.hid rfl) heb.out).2.1; rwa [hn.out] at this)
  have hn6 : n ≤ 600 := hok.out.pos.2
  have hn2 : nc ≤ 20000 := (cdg_ok hnc heb.out).1
  have hR2 : Hid (alpR l tr (grpK cs nc) = (S, T, F)) := Lib.hid (by rw [← hR.out, alpF, if_neg (by rw [heb.out]; simp), hnc.out])
  have h50 : Hid (∀ g ∈ grpK cs nc, g.length ≤ 50) := Lib.hid (by have := grp_50 heb.out; rwa [hnc.out] at this)
  have hcd : Hid (∀ g ∈ grpK cs nc, ∀ c ∈ codesG g, (ix l c).isSome = true) := Lib.hid (by have := grp_cod heb.out; rwa [hnc.out] at this)
  have hfl : Hid (((grpK cs nc).map List.length).sum = nc) := Lib.hid (grpK_flat cs nc (by rw [hnc.out]; omega))
  have hgo := Lib.hid (grpK_ok cs nc (by rw [hnc.out]; omega))
  have HAA := Lib.hid (AgA.sta w φ w.heap.size)
  go_enter Tryz.func10, Tryz.ntmps10
  go_wp2_with fail
  refine (RCheckCodings_any hK0.out.inv.fz s hn hm sc hnc hmc).mono ?_
  rintro e w1 ⟨rfl, hb1⟩
  rw [heb.out]
  have H1 := Lib.hid (hK0.out.callB hb1)
  clear hb1 hK0
  go_wp2_with (go_at_call 20; (with_reducible refine (RWhole_C (n := 0) (N := 1) HAA.out (Lib.hid (by omega)) H1).mono ?_); rintro e w2 ⟨g0, a0, k0, c0, a0', k0', c0', φ2, rfl, S2, L2, V2⟩)
  have A2 := Lib.hid (S2.out.box #[.bool g0, .slice a0 k0 c0, .slice a0' k0' c0'])
  have VS : Hid (FrX φ2 (.agg #[.bool g0, .slice a0 k0 c0, .slice a0' k0' c0']) (seenR l tr []) Z Z) := Lib.hid (by rw [← seenR_nil l tr]; exact V2.out.up hZM.out.1 hZM.out.1)
  generalize w2.alloc (.cells #[.bool g0, .slice a0 k0 c0, .slice a0' k0' c0'] 59) = w3 at *
  generalize w2.heap.size = bx at *
  generalize hb6 : w.heap.size = b6 at *
  clear S2 V2 H1 HAA
  have sc2 : SlV φ2 ac cc cs := sc.mono L2.out
  refine (Rcases_any A2.out.inv.fz sc2 hnc hn2).mono ?_
  rintro e w4 ⟨ag, cg, φ4, rfl, hi4, sg⟩
  have A4 := Lib.hid (A2.out.call hi4)
  have VS4 := Lib.hid (VS.out.mono hi4.le)
  obtain ⟨gs, hgs⟩ : ∃ gs, Hid (grpK cs nc = gs) := ⟨_, Lib.hid rfl⟩
  rw [hgs.out] at sg hgo h50 hcd hfl hR2 ⊢
  obtain ⟨ng, hng⟩ : ∃ ng, Hid (gs.length = ng) := ⟨_, Lib.hid rfl⟩
  have hng2 : ng ≤ 20000 := by have := hgo.out.2.1; rw [hng.out] at this; omega
  have hal : Hid ((alL gs).length ≤ 20000) := Lib.hid (by have := alL_len gs; rw [hfl.out] at this; omega)
  rw [hng.out]
  clear A2 VS hi4 sc2 hgs
  go_wp2
  go_loopw [9, 38] (fun v9 i wr => ∃ (k : Nat) (ao : Option Addr) (co : Nat) (xs : List Int) (φk : Phi) (g1 : Bool) (a1 : Option Addr) (k1 c1 : Nat) (a1' : Option Addr) (k1' c1' : Nat), k ≤ ng ∧ i = .int .i64 k ∧ v9 = .slice ao xs.length co ∧ Hid (alL (gs.take k) = xs) ∧ Hid (AgS w φ b6 bx #[.bool g1, .slice a1 k1 c1, .slice a1' k1' c1'] ao co xs φk wr) ∧ Hid (φ4.le φk) ∧ Hid (FrX φk (.agg #[.bool g1, .slice a1 k1 c1, .slice a1' k1' c1']) (seenR l tr (bigG (gs.take k))) Z Z)) (fun _ i _ => ng - (intOf i).toNat)
  case atStart => exact ⟨0, none, 0, [], φ4, g0, a0, k0, c0, a0', k0', c0', Nat.zero_le _, rfl, rfl, Lib.hid rfl, A4, Lib.hid φ4.le_refl, VS4⟩
  case round =>
    clear A4 VS4
    obtain ⟨k, ao, co, xs, φk, g1, a1, k1, c1, a1', k1', c1', hk, rfl, rfl, hxs, hA, hL4, hV⟩ := hrel
    by_cases hlt : k < ng
    · obtain ⟨bg, off, rfl, f⟩ := sg.listsC hng hlt
      obtain ⟨ak, ck, sk, f⟩ := f k hlt
      obtain ⟨hb, d0⟩ := f wr (hA.out.inv.fz.sub hL4.out)
      have htk := Lib.hid (take_snocD [] gs k ng hng.out hlt)
      have hgm : gs.getD k [] ∈ gs := by rw [getD_elem0 [] gs k (by rw [hng.out]; exact hlt)]; exact List.getElem_mem _
      have hg50 := h50.out _ hgm
      have hgcd := Lib.hid (hcd.out _ hgm)
      have hal2 : Hid ((alL (gs.take (k + 1))).length ≤ 20000) := Lib.hid (by
        have h1 := alL_len (gs.take (k + 1))
        have h2 : ((gs.take (k + 1)).map List.length).sum ≤ nc := by
          have h3 := hfl.out
          rw [← List.take_append_drop (k + 1) gs, List.map_append, List.sum_append] at h3
          omega
        omega)
      have htk2 : Hid (totN l tr (bigG (gs.take (k + 1))) ≤ 256000000) := Lib.hid (tot_le hok.out tr (fun g hg => h50.out g (List.mem_of_mem_take hg)) (fun g hg => hcd.out g (List.mem_of_mem_take hg)) (by
        have h3 := hfl.out
        rw [← List.take_append_drop (k + 1) gs, List.map_append, List.sum_append] at h3
        omega))
      clear f hgm
      rw [htk.out] at hal2 htk2
      generalize gs.getD k [] = g at *
      obtain ⟨nk, hnk⟩ : ∃ nk, Hid (g.length = nk) := ⟨_, Lib.hid rfl⟩
      rw [hnk.out] at d0 hg50
      by_cases h2 : nk < 2
      · have e1 : Hid (alL (gs.take (k + 1)) = xs) := Lib.hid (by rw [htk.out, alL_skip _ _ (by rw [hnk.out]; omega), hxs.out])
        have e2 : Hid (bigG (gs.take (k + 1)) = bigG (gs.take k)) := Lib.hid (by rw [htk.out, bigG_snoc, if_neg (by rw [hnk.out]; omega)])
        go_wp2
        go_roundw
        case rel => exact ⟨k + 1, ao, co, xs, φk, g1, a1, k1, c1, a1', k1', c1', by omega, by go_num, rfl, e1, hA, hL4, Lib.hid (by rw [e2.out]; exact hV.out)⟩
        case measure => (simp [intOf] <;> omega)
      have e1 : Hid (alL (gs.take (k + 1)) = xs ++ codesG g) := Lib.hid (by rw [htk.out, alL_snoc _ _ (by rw [hnk.out]; omega), hxs.out])
      have e2 : Hid (bigG (gs.take (k + 1)) = bigG (gs.take k) ++ [g]) := Lib.hid (by rw [htk.out, bigG_snoc, if_pos (by rw [hnk.out]; omega)])
      obtain ⟨cl, hcl⟩ : ∃ cl, Hid (codesG g = cl) := ⟨_, Lib.hid rfl⟩
      have hcn : Hid (cl.length = nk) := Lib.hid (by rw [← hcl.out]; unfold codesG; rw [List.length_map, hnk.out])
      rw [hcl.out] at hgcd e1
      have hxl : xs.length + nk ≤ 20000 := by
        have h := hal2.out
        rw [← htk.out, e1.out, List.length_append, hcn.out] at h
        exact h
      have hsc5 : scatN l tr cl ≤ 640000 := by
        have h := scatN_le hok.out tr hgcd.out
        rw [hcn.out] at h
        have h3 : nk * (nk * 256) ≤ 50 * (50 * 256) := Nat.mul_le_mul hg50 (Nat.mul_le_mul_right _ hg50)
        omega
      go_wp2
      clear d0 hb
      go_loopw [9, 13, 47] (fun v9 v13 i wi => ∃ (j : Nat) (aj : Option Addr) (cj : Nat) (ys : List Int), j ≤ nk ∧ i = .int .i64 j ∧ v9 = .slice aj ys.length cj ∧ v13 = .int .i64 (rowsN l tr cl j : Nat) ∧ Hid (xs ++ cl.take j = ys) ∧ Hid (AgS w φ b6 bx #[.bool g1, .slice a1 k1 c1, .slice a1' k1' c1'] aj cj ys φk wi)) (fun _ _ i _ => nk - (intOf i).toNat)
      case atStart => exact ⟨0, ao, co, xs, Nat.zero_le _, rfl, rfl, rfl, Lib.hid (by simp), hA⟩
      case round =>
        clear hA
        rename World => wi
        obtain ⟨j, aj, cj, ys, hj, rfl, rfl, rfl, hys, hI⟩ := hrel
        by_cases hjl : j < nk
        · obtain ⟨b0, o0, rfl, fx⟩ := sk.cdgD hnk hjl
          obtain ⟨hbx, d1, d2, d3⟩ := fx j hjl wi (hI.out.inv.fz.sub hL4.out)
          have hxc := Lib.hid (codesG_getD hnk.out hjl)
          rw [hcl.out] at hxc
          have htj := Lib.hid (take_snocI cl hcn.out hjl)
          have hrs := Lib.hid (rowsN_step l tr hcn.out hjl)
          have hrl := rowsN_le (l := l) (tr := tr) hcn.out hjl
          have hxi : Hid ((ix l (cl.getD j 0)).isSome = true) := Lib.hid (hgcd.out _ (by rw [getD_elem0 _ _ _ (by rw [hcn.out]; exact hjl)]; exact List.getElem_mem _))
          have hyl : ys.length ≤ 20000 := by rw [← hys.out, List.length_append, List.length_take]; omega
          rw [hxc.out] at htj hrs hrl hxi
          generalize hX : g.getD j cdg0 = X at *
          obtain ⟨x1, x2, x3⟩ := X
          dsimp only at d1 d2 d3 htj hrs hrl hxi
          have hyn : Hid (xs ++ cl.take (j + 1) = ys ++ [x3]) := Lib.hid (by rw [htj.out, ← List.append_assoc, hys.out])
          have hI2 := Lib.hid (hI.out.alloc (.cells #[.int .i64 x1, .int .i64 x2, .int .i64 x3] 70))
          have hK := Lib.hid (Blk.new wi #[.int .i64 x1, .int .i64 x2, .int .i64 x3] 70)
          have hnj : Hid (∀ x, aj = some x → x.block ≠ wi.heap.size) := Lib.hid (fun x e => by have := (hI.out.own.lt x e).2; omega)
          have hx3 : Hid (cl.getD j 0 = x3) := hxc
          clear hX hxc htj
          go_upto_region 14 with (fail)
          clear d1 d2 d3 hbx hI
          generalize (wi.alloc (.cells #[.int .i64 x1, .int .i64 x2, .int .i64 x3] 70)) = wj at *
          generalize wi.heap.size = bj at *
          have y0 : wj.cell? ⟨bj, 2, none⟩ = some (.int .i64 x3) := hK.out.cell 2
          have hin := hI2.out.inv
          have hon := hI2.out.own
          go_wp2_with (at_builtin; refine wpList_app1F (α := Int) rfl _ _ 56 rfl slI hin aj cj _ hon _ _ x3 rfl rfl 1 rfl (by omega) ?_; intro a5 c5 w5 hi5 ho5 hg5 hf5)
          have hA5 := Lib.hid ((hI2.out.alloc _).app hi5 ho5 hg5 hf5)
          have hK5 : Hid (Blk w5 bj #[.int .i64 x1, .int .i64 x2, .int .i64 x3] 70) := Lib.hid ((hg5.block bj (hK.out.alloc _).lt (fun e => by
            cases aj with
            | none => cases e
            | some x => exact hnj.out x rfl (Option.some.inj e).symm)).trans (hK.out.alloc _))
          clear hin hon hi5 ho5 hg5 hf5 hI2 hK hnj y0
          go_wp2
          go_loopw [13, 59] (fun v13 i wm => ∃ (m : Nat), m ≤ nk ∧ i = .int .i64 m ∧ v13 = .int .i64 ((rowsN l tr cl j + colsN l tr cl x3 m : Nat) : Int) ∧ Hid (AgS w φ b6 bx #[.bool g1, .slice a1 k1 c1, .slice a1' k1' c1'] a5 c5 (ys ++ [x3]) φk wm) ∧ Hid (Blk wm bj #[.int .i64 x1, .int .i64 x2, .int .i64 x3] 70)) (fun _ i _ => nk - (intOf i).toNat)
          case atStart => exact ⟨0, Nat.zero_le _, rfl, by rw [colsN_zero, Nat.add_zero], hA5, hK5⟩
          case round =>
            clear hA5 hK5
            rename World => wm
            obtain ⟨m, hm2, rfl, rfl, hA, hK⟩ := hrel
            by_cases hml : m < nk
            · obtain ⟨b0', o0', e9, fx⟩ := sk.cdgD hnk hml
              obtain ⟨hbx, d1, d2, d3⟩ := fx m hml wm (hA.out.inv.fz.sub hL4.out)
              injection e9 with e9
              injection e9 with e91 e92 e93
              subst e91 e92
              have hxc := Lib.hid (codesG_getD hnk.out hml)
              rw [hcl.out] at hxc
              have hcs := Lib.hid (colsN_step l tr x3 hcn.out hml)
              have hcle := colsN_le (l := l) (tr := tr) (x := x3) hcn.out hml
              have hyi : Hid ((ix l (cl.getD m 0)).isSome = true) := Lib.hid (hgcd.out _ (by rw [getD_elem0 _ _ _ (by rw [hcn.out]; exact hml)]; exact List.getElem_mem _))
              have hself : Hid (j = m → x3 = cl.getD m 0) := Lib.hid (fun e => by rw [← e, ← hx3.out])
              rw [hxc.out] at hcs hcle hyi hself
              generalize hY : g.getD m cdg0 = Y at *
              obtain ⟨q1, q2, q3⟩ := Y
              dsimp only at d1 d2 d3 hcs hcle hyi hself
              have hA2 := Lib.hid (hA.out.alloc (.cells #[.int .i64 q1, .int .i64 q2, .int .i64 q3] 70))
              have hK2 := Lib.hid (hK.out.alloc (.cells #[.int .i64 q1, .int .i64 q2, .int .i64 q3] 70))
              have hY2 := Lib.hid (Blk.new wm #[.int .i64 q1, .int .i64 q2, .int .i64 q3] 70)
              clear hY hxc
              generalize hrn : rowsN l tr cl j = rn at *
              generalize hcn2 : colsN l tr cl x3 m = cn at *
              by_cases hjm : j = m
              · have hg3 : (((j : Nat) : Int) != ((m : Nat) : Int)) = false := by simp [hjm]
                have hnx : Hid (colsN l tr cl x3 (m + 1) = cn) := Lib.hid (by rw [hcs.out, hself.out hjm, farN_self, Nat.add_zero])
                clear hjm
                go_wp2
                go_roundw
                case rel => exact ⟨m + 1, by omega, by go_num, by rw [hnx.out], hA2, hK2⟩
                case measure => (simp [intOf] <;> omega)
              · have hg3 : (((j : Nat) : Int) != ((m : Nat) : Int)) = true := by rw [bne_iff_ne]; omega
                have hnx : Hid (rn + colsN l tr cl x3 (m + 1) = rn + cn + farN l tr x3 q3) := Lib.hid (by rw [hcs.out]; omega)
                have hfc := Lib.hid (fun W (hf : Fz φ W) => Rfar_any hf s hok x3 q3 hxi hyi tr)
                clear hjm
                generalize farN l tr x3 q3 = fn at *
                have hwr : IntKind.i64.wrap (((rn : Int) + (cn : Int)) + (fn : Int)) = ((rn : Int) + (cn : Int)) + (fn : Int) := IntWalk.i64_in _ (by omega)
                go_upto_region 19 with (fail)
                clear d1 d2 d3 hbx hA hK
                generalize (wm.alloc (.cells #[.int .i64 q1, .int .i64 q2, .int .i64 q3] 70)) = wn at *
                generalize wm.heap.size = bn at *
                have y0 : wn.cell? ⟨bj, 2, none⟩ = some (.int .i64 x3) := hK2.out.cell 2
                have y1 : wn.cell? ⟨bn, 2, none⟩ = some (.int .i64 q3) := hY2.out.cell 2
                go_wp2_with (go_at_call 32; (with_reducible refine (hfc.out _ (hA2.out.inv.fz.sub hA2.out.inv.le)).mono ?_); rintro e w7 ⟨rfl, hb7⟩)
                have hA3 := Lib.hid (hA2.out.callB hb7)
                have hK3 := Lib.hid (hK2.out.callB hb7)
                clear hb7 y0 y1 hA2 hK2 hY2
                go_roundw
                case rel => exact ⟨m + 1, by omega, by go_num, by rw [hnx.out]; rfl, hA3, hK3⟩
                case measure => (simp [intOf] <;> omega)
            · obtain rfl : nk = m := by omega
              have hrx : Hid (rowsN l tr cl j + colsN l tr cl x3 nk = rowsN l tr cl (j + 1)) := Lib.hid (by rw [colsN_all l tr hcn.out, hrs.out])
              rw [hrx.out]
              go_wp2
              go_roundw
              case rel => exact ⟨j + 1, a5, c5, ys ++ [x3], by omega, by go_num, by simp, rfl, hyn, hA⟩
              case measure => (simp [intOf] <;> omega)
        · obtain rfl : nk = j := by omega
          have hye : Hid (alL (gs.take (k + 1)) = ys) := Lib.hid (by rw [e1.out, ← hys.out, ← hcn.out, List.take_length])
          rw [rowsN_all l tr hcn.out]
          obtain ⟨p, hpq⟩ : ∃ p, Hid (nk - 1 = p) := ⟨_, Lib.hid rfl⟩
          have hp1 : Hid (nk = p + 1) := Lib.hid (by have := hpq.out; omega)
          have hp2 : 0 < p ∧ p ≤ 49 := by have := hp1.out; omega
          have hpw : IntKind.i64.wrap ((nk : Int) - 1) = (p : Int) := by
            have e : (nk : Int) - 1 = (p : Int) := by have := hp1.out; omega
            rw [e]; exact IntWalk.i64_in _ (by omega)
          have hsn : Hid (seenR l tr (bigG (gs.take k)) + mkRat (scatN l tr cl) p = seenR l tr (bigG (gs.take (k + 1)))) := Lib.hid (by
            rw [e2.out, ← seenR_step l tr (bigG (gs.take k)) (g := g) (by rw [hnk.out]; omega) (by rw [hnk.out]; exact hg50), hnk.out, hpq.out, hcl.out])
          have hCp : Hid (CapOk (seenR l tr (bigG (gs.take k)) + mkRat (scatN l tr cl) p) (Z * 49 + 640000 * Z) (Z * 49) Z Z) := Lib.hid (by rw [hsn.out, htk.out]; exact seen_cap htk2.out hZ.out)
          have hHB : Hid (Z * 49 + 640000 * Z ≤ M ∧ Z * 49 ≤ M) := Lib.hid (by have := hZM.out; omega)
          have hHN : Hid (scatN l tr cl ≤ 640000 ∧ p ≤ 49 ∧ 0 < p ∧ 640000 < 9223372036854775808 ∧ 49 < 9223372036854775808) := Lib.hid (by omega)
          have HSB := Lib.hid (AgS.sta w φ b6 bx #[.bool g1, .slice a1 k1 c1, .slice a1' k1' c1'] aj cj ys)
          have LK := Lib.hid φk.le_refl
          generalize scatN l tr cl = sc9 at *
          have hId : Hid (AgS w φ b6 bx #[.bool g1, .slice a1 k1 c1, .slice a1' k1' c1'] aj cj ys φk wi.drew) := Lib.hid (hI.out.callB (bdrewN (Below.refl _ wi) 1))
          have hcf := Lib.hid (fun (ψ : Phi) (W : World) (hs : Hid (AgS w φ b6 bx #[.bool g1, .slice a1 k1 c1, .slice a1' k1' c1'] aj cj ys ψ W)) => (⟨hs.out.kx.cell 0, hs.out.kx.cell 1, hs.out.kx.cell 2, hs.out.kx.frz 0, hs.out.kx.frz 1, hs.out.kx.frz 2⟩ : W.cell? ⟨bx, 0, none⟩ = some (.bool g1) ∧ W.cell? ⟨bx, 1, none⟩ = some (.slice a1 k1 c1) ∧ W.cell? ⟨bx, 2, none⟩ = some (.slice a1' k1' c1') ∧ W.frozen? ⟨bx, 0, none⟩ = false ∧ W.frozen? ⟨bx, 1, none⟩ = false ∧ W.frozen? ⟨bx, 2, none⟩ = false))
          go_upto_region 22 with (fail)
          obtain ⟨x0, x1, x2, x3, x4, x5⟩ := hcf.out φk wi.drew hId
          go_region_law (first
            | (go_simp; go_at_call 33; (with_reducible refine (RPlus_K HSB.out hD hM hV LP VP (Lib.hid φP.le_refl) hHB hCp SP).mono ?_); rintro e wQ ⟨gQ, aQ, kQ, cQ, aQ', kQ', cQ', φQ, rfl, SQ, LQ, VQ⟩; obtain ⟨u0, u1, u2, u3, u4, u5⟩ := hcf.out φQ wQ SQ)
            | (go_simp; go_at_call 22; (with_reducible refine (RPart_C (a := sc9) (b := p) (N := 640000) (D := 49) HSB.out hHN hId).mono ?_); rintro e wP ⟨gP, aP, kP, cP, aP', kP', cP', φP, rfl, SP, LP, VP⟩; obtain ⟨z0, z1, z2, z3, z4, z5⟩ := hcf.out φP wP SP)
            | fail)
          all_goals
            have hAZ := Lib.hid (SQ.out.put3 (.bool gQ) (.slice aQ kQ cQ) (.slice aQ' kQ' cQ'))
            have hVZ : Hid (FrX φQ (.agg #[.bool gQ, .slice aQ kQ cQ, .slice aQ' kQ' cQ']) (seenR l tr (bigG (gs.take (k + 1)))) Z Z) := Lib.hid (by rw [← hsn.out]; exact VQ.out)
            have hLZ := Lib.hid (hL4.out.trans (LP.out.trans LQ.out))
            clear u0 u1 u2 u3 u4 u5 z0 z1 z2 z3 z4 z5 x0 x1 x2 x3 x4 x5
            generalize ((wQ.setCell ⟨bx, 0, none⟩ (.bool gQ)).setCell ⟨bx, 1, none⟩ (.slice aQ kQ cQ)).setCell ⟨bx, 2, none⟩ (.slice aQ' kQ' cQ') = wz at *
            go_wp2
            go_roundw
            case rel => exact ⟨k + 1, aj, cj, ys, φQ, gQ, aQ, kQ, cQ, aQ', kQ', cQ', by omega, by go_num, rfl, hye, hAZ, hLZ, hVZ⟩
            case measure => (simp [intOf] <;> omega)
    · obtain rfl : ng = k := by omega
      have ex : gs.take ng = gs := by rw [← hng.out, List.take_length]
      rw [ex] at hxs hV
      obtain ⟨nx, hnx⟩ : ∃ nx, Hid (xs.length = nx) := ⟨_, Lib.hid rfl⟩
      rw [hnx.out]
      have hnx2 : nx ≤ 20000 := by rw [← hnx.out, ← hxs.out]; exact hal.out
      have hvA : Hid (∀ c ∈ xs, (ix l c).isSome = true) := Lib.hid (fun c hc => by
        rw [← hxs.out] at hc
        obtain ⟨g, hg, hc⟩ := List.mem_flatMap.1 hc
        exact hcd.out g (List.mem_filter.1 hg).1 c hc)
      have htot : Hid (totN l tr (bigG gs) ≤ 256000000) := Lib.hid (tot_le hok.out tr h50.out hcd.out (by rw [hfl.out]; omega))
      by_cases hz : nx = 0
      · have g0 : ((nx : Int) == 0) = true := by simp [hz]
        have hR3 : Hid ((S, T, F) = (⟨#[]⟩, ⟨#[]⟩, 9)) := Lib.hid (by rw [← hR2.out, alpR, if_pos (by rw [hxs.out, hnx.out, hz])])
        clear hz
        have r0 : wr.cell? ⟨b6, 0, none⟩ = some (.string ⟨#[]⟩) := hA.out.k6.cell 0
        have r1' : wr.cell? ⟨b6, 1, none⟩ = some (.string ⟨#[]⟩) := hA.out.k6.cell 1
        have r2' := hA.out.k6.frz 0
        have r3' := hA.out.k6.frz 1
        go_wp2
        have hZ := Lib.hid ((hA.out.k6.set 0 (.string ⟨#[]⟩)).set 1 (.string ⟨#[]⟩))
        have e0 : _ = some (Value.string ⟨#[]⟩) := hZ.out.cell 0
        have e1 : _ = some (Value.string ⟨#[]⟩) := hZ.out.cell 1
        (try simp only [Exit.inBlock, Exit.then])
        refine bodyPost_ret (v := .tuple #[.agg #[.string ⟨#[]⟩, .string ⟨#[]⟩], .int .i64 9]) (by simp [results, Tryz.results10, go_sem, e0, e1]) rfl ?_
        have h := hR3.out
        cases h
        subst hb6
        exact ⟨rfl, Below_grown (Below_grown hA.out.inv.bel (grown_setC _ _ _ _) hA.out.lo.1) (grown_setC _ _ _ _) hA.out.lo.1⟩
      have g0 : ((nx : Int) == 0) = false := by rw [beq_eq_false_iff_ne]; omega
      have hR3 : Hid ((if scatN l tr xs = 0 then ratR ((1 : Int) : Rat) else ratR (((1 : Int) : Rat) - seenR l tr (bigG gs) * mkRat ((nx - 1 : Nat) : Int) (scatN l tr xs))) = (S, T, F)) := Lib.hid (by
        rw [← hR2.out, alpR, hxs.out, hnx.out, if_neg hz, alp_one, alp_quot hz])
      obtain ⟨φR, hle, hle0, hsx, hK⟩ := hA.out.done
      have HK := Lib.hid hK
      have SX := Lib.hid hsx
      have SL := Lib.hid (s.mono hle0)
      have VR := Lib.hid (hV.out.mono hle)
      have HPR := Lib.hid (hp.mono hle0)
      obtain ⟨C, hC⟩ : ∃ C, Hid (l.map (·.1) = C) := ⟨_, Lib.hid rfl⟩
      have hCl : Hid (C.length = n) := Lib.hid (by rw [← hC.out, List.length_map, hn.out])
      have hCn : Hid (C.Nodup) := Lib.hid (by rw [← hC.out]; exact (cods_rise hok.out.toFrOk).imp (fun {a b} (h : a < b) (e : a = b) => by omega))
      have hCi : Hid (∀ d ∈ C, (ix l d).isSome = true) := Lib.hid (fun d hd => cod_ix (by rw [hC.out]; exact hd))
      have hCc : Hid (∀ d ∈ xs, d ∈ C) := Lib.hid (fun d hd => by rw [← hC.out]; exact ix_cod (hvA.out d hd))
      have hsle := scatN_le hok.out tr hvA.out
      rw [hnx.out] at hsle
      have hxx : nx * (nx * 256) ≤ 20000 * (20000 * 256) := Nat.mul_le_mul hnx2 (Nat.mul_le_mul_right _ hnx2)
      have hz1 := Lib.hid hz
      have HZB := Lib.hid (fun (k j : Nat) (hk : k < n) (hj : j < n) => show outN l tr xs (C.take k) + inN l tr xs (C.getD k 0) (C.take (j + 1)) ≤ 102400000000 from by
        have e := take_snocI C hCl.out hk
        have h := part_le2 hok.out tr (A := xs) hvA.out (S := C.take k) (S2 := C.take (j + 1)) (c := C.getD k 0) (by rw [← e]; exact List.Nodup.sublist (List.take_sublist _ _) hCn.out) (List.Nodup.sublist (List.take_sublist _ _) hCn.out) (fun d hd => hCi.out d (by rw [← e] at hd; exact List.mem_of_mem_take hd)) (fun d hd => hCi.out d (List.mem_of_mem_take hd))
        rw [hnx.out] at h
        omega)
      clear hA hV hle hle0 hsx hK hL4 hz hxs
      go_wp2
      go_loopw [18, 92] (fun v18 i wr => ∃ k : Nat, k ≤ n ∧ i = .int .i64 k ∧ v18 = .int .i64 (outN l tr xs (C.take k) : Nat) ∧ Hid (KrB w b6 bx #[.bool g1, .slice a1 k1 c1, .slice a1' k1' c1'] φR wr)) (fun _ i _ => n - (intOf i).toNat)
      case atStart => exact ⟨0, Nat.zero_le _, rfl, rfl, HK⟩
      case round =>
        clear HK
        rename World => wr
        obtain ⟨k, hk, rfl, rfl, hK⟩ := hrel
        by_cases hlt : k < n
        · obtain ⟨b, off, rfl, f⟩ := SL.out.nodesD hn hlt
          obtain ⟨hb, d1, d2, d3⟩ := f k hlt wr hK.out.a.fz
          have hck := Lib.hid (cods_getD hn.out hlt)
          rw [hC.out] at hck
          have hot := Lib.hid (outN_step (l := l) (tr := tr) (A := xs) (c := C.getD k 0) (S := C.take k) hCn.out hCc.out)
          have hB2 := Lib.hid (fun j (hj : j < n) => HZB.out k j hlt hj)
          have hti : Hid ((ix l (C.getD k 0)).isSome = true) := Lib.hid (hCi.out _ (by rw [getD_elem0 _ _ _ (by rw [hCl.out]; exact hlt)]; exact List.getElem_mem _))
          rw [← take_snocI C hCl.out hlt] at hot
          rw [hck.out] at hot hB2 hti
          clear f
          generalize (l.getD k nod0).2.2 = t3 at *
          generalize (l.getD k nod0).2.1 = t2 at *
          generalize (l.getD k nod0).1 = t1 at *
          have hK2 := Lib.hid (hK.out.callB ((Below.refl _ _).alloc (Nat.le_refl _) (.cells #[.int .i64 t1, .int .i64 t2, .string t3] 51)))
          have hT2 := Lib.hid (Blk.new wr #[.int .i64 t1, .int .i64 t2, .string t3] 51)
          go_wp2
          clear d1 d2 d3 hb hK hck
          generalize (wr.alloc (.cells #[.int .i64 t1, .int .i64 t2, .string t3] 51)) = wa at *
          generalize wr.heap.size = b20 at *
          go_loopw [18, 98] (fun v18 i wm => ∃ j : Nat, j ≤ n ∧ i = .int .i64 j ∧ v18 = .int .i64 ((outN l tr xs (C.take k) + inN l tr xs t1 (C.take j) : Nat) : Int) ∧ Hid (KrB w b6 bx #[.bool g1, .slice a1 k1 c1, .slice a1' k1' c1'] φR wm) ∧ Hid (Blk wm b20 #[.int .i64 t1, .int .i64 t2, .string t3] 51)) (fun _ i _ => n - (intOf i).toNat)
          case atStart => exact ⟨0, Nat.zero_le _, rfl, rfl, hK2, hT2⟩
          case round =>
            clear hK2 hT2
            rename World => wm
            obtain ⟨j, hj, rfl, rfl, hK, hB⟩ := hrel
            by_cases hjl : j < n
            · obtain ⟨b', off', e9, f⟩ := SL.out.nodesD hn hjl
              obtain ⟨hb, d1, d2, d3⟩ := f j hjl wm hK.out.a.fz
              injection e9 with e9
              injection e9 with e91 e92 e93
              subst e91 e92
              have hck := Lib.hid (cods_getD hn.out hjl)
              rw [hC.out] at hck
              have hin := Lib.hid (inN_step l tr xs t1 (C.take j) (C.getD j 0))
              have hbd := hB2.out j hjl
              have hui : Hid ((ix l (C.getD j 0)).isSome = true) := Lib.hid (hCi.out _ (by rw [getD_elem0 _ _ _ (by rw [hCl.out]; exact hjl)]; exact List.getElem_mem _))
              rw [← take_snocI C hCl.out hjl, hck.out] at hin
              rw [hck.out] at hui
              clear f
              generalize (l.getD j nod0).2.2 = u3 at *
              generalize (l.getD j nod0).2.1 = u2 at *
              generalize (l.getD j nod0).1 = u1 at *
              have hK2 := Lib.hid (hK.out.callB ((Below.refl _ _).alloc (Nat.le_refl _) (.cells #[.int .i64 u1, .int .i64 u2, .string u3] 51)))
              have hT2 := Lib.hid (hB.out.alloc (.cells #[.int .i64 u1, .int .i64 u2, .string u3] 51))
              have hU2 := Lib.hid (Blk.new wm #[.int .i64 u1, .int .i64 u2, .string u3] 51)
              go_wp2
              clear d1 d2 d3 hb hK hB hck
              generalize (wm.alloc (.cells #[.int .i64 u1, .int .i64 u2, .string u3] 51)) = wb at *
              generalize wm.heap.size = b22 at *
              go_loopw [23, 24, 104] (fun v23 v24 i wn => ∃ m : Nat, m ≤ nx ∧ i = .int .i64 m ∧ v23 = .int .i64 (cnA (xs.take m) t1 : Nat) ∧ v24 = .int .i64 (cnA (xs.take m) u1 : Nat) ∧ Hid (KrB w b6 bx #[.bool g1, .slice a1 k1 c1, .slice a1' k1' c1'] φR wn) ∧ Hid (Blk wn b20 #[.int .i64 t1, .int .i64 t2, .string t3] 51) ∧ Hid (Blk wn b22 #[.int .i64 u1, .int .i64 u2, .string u3] 51)) (fun _ _ i _ => nx - (intOf i).toNat)
              case atStart => exact ⟨0, Nat.zero_le _, rfl, rfl, rfl, hK2, hT2, hU2⟩
              case round =>
                clear hK2 hT2 hU2
                rename World => wn
                obtain ⟨m, hm2, rfl, rfl, rfl, hK, hB, hU⟩ := hrel
                have y0 : wn.cell? ⟨b20, 0, none⟩ = some (.int .i64 t1) := hB.out.cell 0
                have y1 : wn.cell? ⟨b22, 0, none⟩ = some (.int .i64 u1) := hU.out.cell 0
                by_cases hml : m < nx
                · obtain ⟨bo, oo, rfl, fx⟩ := SX.out.intsD hnx hml
                  obtain ⟨hbx, d1⟩ := fx m hml wn hK.out.a.fz
                  have htm := Lib.hid (take_snocI xs hnx.out hml)
                  clear fx
                  generalize xs.getD m 0 = z at *
                  have hca : Hid (cnA (xs.take (m + 1)) t1 = cnA (xs.take m) t1 + if z = t1 then 1 else 0) := Lib.hid (by rw [htm.out]; exact cntP_snoc _ _ _)
                  have hcb : Hid (cnA (xs.take (m + 1)) u1 = cnA (xs.take m) u1 + if z = u1 then 1 else 0) := Lib.hid (by rw [htm.out]; exact cntP_snoc _ _ _)
                  have hla : cnA (xs.take m) t1 ≤ 20000 := by have := cntP_le (fun q => q = t1) (xs.take m); rw [List.length_take] at this; unfold cnA; omega
                  have hlb : cnA (xs.take m) u1 ≤ 20000 := by have := cntP_le (fun q => q = u1) (xs.take m); rw [List.length_take] at this; unfold cnA; omega
                  generalize cnA (xs.take m) t1 = cn1 at *
                  generalize cnA (xs.take m) u1 = cn2 at *
                  clear htm
                  by_cases ha : z = t1 <;> by_cases hb : z = u1
                  · have ha2 : ((z : Int) == t1) = true := by simp [ha]
                    have hb2 : ((z : Int) == u1) = true := by simp [hb]
                    have HA := Lib.hid ha
                    have HBq := Lib.hid hb
                    clear ha hb
                    go_wp2
                    go_roundw
                    case rel => exact ⟨m + 1, by omega, by go_num, by rw [hca.out, if_pos HA.out]; rfl, by rw [hcb.out, if_pos HBq.out]; rfl, hK, hB, hU⟩
                    case measure => (simp [intOf] <;> omega)
                  · have ha2 : ((z : Int) == t1) = true := by simp [ha]
                    have hb2 : ((z : Int) == u1) = false := by simp [hb]
                    have HA := Lib.hid ha
                    have HBq := Lib.hid hb
                    clear ha hb
                    go_wp2
                    go_roundw
                    case rel => exact ⟨m + 1, by omega, by go_num, by rw [hca.out, if_pos HA.out]; rfl, by rw [hcb.out, if_neg HBq.out]; rfl, hK, hB, hU⟩
                    case measure => (simp [intOf] <;> omega)
                  · have ha2 : ((z : Int) == t1) = false := by simp [ha]
                    have hb2 : ((z : Int) == u1) = true := by simp [hb]
                    have HA := Lib.hid ha
                    have HBq := Lib.hid hb
                    clear ha hb
                    go_wp2
                    go_roundw
                    case rel => exact ⟨m + 1, by omega, by go_num, by rw [hca.out, if_neg HA.out]; rfl, by rw [hcb.out, if_pos HBq.out]; rfl, hK, hB, hU⟩
                    case measure => (simp [intOf] <;> omega)
                  · have ha2 : ((z : Int) == t1) = false := by simp [ha]
                    have hb2 : ((z : Int) == u1) = false := by simp [hb]
                    have HA := Lib.hid ha
                    have HBq := Lib.hid hb
                    clear ha hb
                    go_wp2
                    go_roundw
                    case rel => exact ⟨m + 1, by omega, by go_num, by rw [hca.out, if_neg HA.out]; rfl, by rw [hcb.out, if_neg HBq.out]; rfl, hK, hB, hU⟩
                    case measure => (simp [intOf] <;> omega)
                · obtain rfl : nx = m := by omega
                  have ey : xs.take nx = xs := by rw [← hnx.out, List.take_length]
                  rw [ey]
                  clear ey
                  have hla : cnA xs t1 ≤ 20000 := by have := cntP_le (fun q => q = t1) xs; rw [hnx.out] at this; unfold cnA; omega
                  have hlb : cnA xs u1 ≤ 20000 := by have := cntP_le (fun q => q = u1) xs; rw [hnx.out] at this; unfold cnA; omega
                  have hfc := Lib.hid (fun W (hf : Fz φR W) => Rfar_any hf SL.out hok t1 u1 hti hui tr)
                  have hff := farN_le hok.out tr hti.out hui.out
                  rw [hin.out] at hbd
                  obtain ⟨P, hP⟩ : ∃ P, Hid (cnA xs t1 * cnA xs u1 = P) := ⟨_, Lib.hid rfl⟩
                  rw [hP.out] at hbd hin
                  obtain ⟨Q, hQ⟩ : ∃ Q, Hid (P * farN l tr t1 u1 = Q) := ⟨_, Lib.hid rfl⟩
                  rw [hQ.out] at hbd hin
                  have hPl : P ≤ 20000 * 20000 := by rw [← hP.out]; exact Nat.mul_le_mul hla hlb
                  have hwP : IntKind.i64.wrap ((cnA xs t1 : Int) * (cnA xs u1 : Int)) = (P : Int) := by
                    rw [← Int.natCast_mul, hP.out]; exact IntWalk.i64_in _ (by omega)
                  have hwQ : IntKind.i64.wrap ((P : Int) * (farN l tr t1 u1 : Int)) = (Q : Int) := by
                    rw [← Int.natCast_mul, hQ.out]; exact IntWalk.i64_in _ (by omega)
                  generalize hou : outN l tr xs (C.take k) = ou at *
                  replace hou := Lib.hid hou
                  generalize inN l tr xs t1 (C.take j) = iv at *
                  generalize cnA xs t1 = cn1 at *
                  generalize cnA xs u1 = cn2 at *
                  generalize farN l tr t1 u1 = fn at *
                  have hwV : IntKind.i64.wrap (((ou : Int) + (iv : Int)) + (Q : Int)) = ((ou : Int) + (iv : Int)) + (Q : Int) := IntWalk.i64_in _ (by omega)
                  go_wp2_with (go_at_call 32; (with_reducible refine (hfc.out _ hK.out.a.fz).mono ?_); rintro e w7 ⟨rfl, hb7⟩)
                  have hK3 := Lib.hid (hK.out.callB hb7)
                  have hB3 := Lib.hid (hB.out.callB hb7)
                  clear hb7 y0 y1 hK hB hU
                  go_roundw
                  case rel => exact ⟨j + 1, by omega, by go_num, by rw [hou.out, hin.out]; exact congrArg (Value.int .i64) (by omega), hK3, hB3⟩
                  case measure => (simp [intOf] <;> omega)
            · obtain rfl : n = j := by omega
              have ey : C.take n = C := List.take_of_length_le (by rw [hCl.out]; exact Nat.le_refl _)
              rw [ey, ← hot.out]
              go_wp2
              go_roundw
              case rel => exact ⟨k + 1, by omega, by go_num, rfl, hK⟩
              case measure => (simp [intOf] <;> omega)
        · obtain rfl : n = k := by omega
          have ey : C.take n = C := List.take_of_length_le (by rw [hCl.out]; exact Nat.le_refl _)
          rw [ey, outN_all hCn.out hCc.out]
          clear ey HZB
          have HSB := Lib.hid (KrB.sta w b6 bx #[.bool g1, .slice a1 k1 c1, .slice a1' k1' c1'])
          have LRA := Lib.hid φR.le_refl
          have HN1 : Hid ((1 : Int).natAbs ≤ 1 ∧ 1 < 9223372036854775808) := Lib.hid (by omega)
          have hEl : scatN l tr xs ≤ 102400000000 := by omega
          have HB11 : Hid (1 ≤ M ∧ 1 ≤ M) := Lib.hid ⟨Nat.le_trans hZM.out.1 (Nat.le_trans (Nat.le_mul_of_pos_right Z (by decide)) hZM.out.2), Nat.le_trans hZM.out.1 (Nat.le_trans (Nat.le_mul_of_pos_right Z (by decide)) hZM.out.2)⟩
          obtain ⟨E, hE⟩ : ∃ E, Hid (scatN l tr xs = E) := ⟨_, Lib.hid rfl⟩
          rw [hE.out] at hEl hR3 ⊢
          by_cases hE0 : E = 0
          · have g3 : ((E : Int) == 0) = true := by simp [hE0]
            rw [if_pos hE0] at hR3
            clear hE0 hE
            go_wp2_with (first
              | (go_at_call 20; (with_reducible refine (RWhole_C (n := 1) (N := 1) HSB.out HN1 hK).mono ?_); rintro e wA ⟨gA, aA, kA, cA, aA', kA', cA', φA, rfl, SA, LA, VA⟩)
              | (go_at_call 21; (with_reducible refine (RRatio_C HSB.out hD hM VA (Lib.hid φA.le_refl) HPR LA HB11 hR3 SA).mono ?_); rintro e wB ⟨rfl, SB⟩; have r0 : wB.cell? ⟨b6, 0, none⟩ = some (.string ⟨#[]⟩) := SB.out.a.k.cell 0; have r1' : wB.cell? ⟨b6, 1, none⟩ = some (.string ⟨#[]⟩) := SB.out.a.k.cell 1; have r2' := SB.out.a.k.frz 0; have r3' := SB.out.a.k.frz 1)
              | fail)
            have hZ := Lib.hid ((SB.out.a.k.set 0 (.string S)).set 1 (.string T))
            have e0 : _ = some (Value.string S) := hZ.out.cell 0
            have e1 : _ = some (Value.string T) := hZ.out.cell 1
            (try simp only [Exit.inBlock, Exit.then])
            refine bodyPost_ret (v := .tuple #[.agg #[.string S, .string T], .int .i64 F]) (by simp [results, Tryz.results10, go_sem, e0, e1]) rfl ?_
            subst hb6
            exact ⟨rfl, Below_grown (Below_grown SB.out.a.bel (grown_setC _ _ _ _) SB.out.a.lo) (grown_setC _ _ _ _) SB.out.a.lo⟩
          have g3 : ((E : Int) == 0) = false := by rw [beq_eq_false_iff_ne]; omega
          rw [if_neg hE0] at hR3
          obtain ⟨p, hpq⟩ : ∃ p, Hid (nx - 1 = p) := ⟨_, Lib.hid rfl⟩
          have hp1 : Hid (nx = p + 1) := Lib.hid (by have := hpq.out; have := hz1.out; omega)
          have hp2 : p ≤ 20000 := by have := hp1.out; omega
          have hpw : IntKind.i64.wrap ((nx : Int) - 1) = (p : Int) := by
            have e : (nx : Int) - 1 = (p : Int) := by have := hp1.out; omega
            rw [e]; exact IntWalk.i64_in _ (by omega)
          rw [hpq.out] at hR3
          have hHN : Hid (p ≤ 20000 ∧ E ≤ 102400000000 ∧ 0 < E ∧ 20000 < 9223372036854775808 ∧ 102400000000 < 9223372036854775808) := Lib.hid (by omega)
          have HBT : Hid (Z * 20000 ≤ M ∧ Z * 102400000000 ≤ M ∧ Z ≤ M ∧ 20000 ≤ M) := Lib.hid (by have := hZM.out; omega)
          have HCT : Hid (Z * 20000 ≤ Z * 20000 ∧ Z * 102400000000 ≤ Z * 102400000000) := Lib.hid ⟨Nat.le_refl _, Nat.le_refl _⟩
          have HBM : Hid (1 * (Z * 102400000000) + Z * 20000 * 1 ≤ M ∧ 1 * (Z * 102400000000) ≤ M) := Lib.hid (by have := hZM.out; omega)
          have HCM : Hid (1 * (Z * 102400000000) + Z * 20000 * 1 ≤ M ∧ 1 * (Z * 102400000000) ≤ M) := HBM
          have HBR : Hid (M ≤ M ∧ M ≤ M) := Lib.hid ⟨Nat.le_refl _, Nat.le_refl _⟩
          clear hE0 hE
          go_upto_region 47 with (fail)
          have hKd : Hid (KrB w b6 bx #[.bool g1, .slice a1 k1 c1, .slice a1' k1' c1'] φR wr.drew) := Lib.hid hK.out.drew
          have hcf := Lib.hid (fun (ψ : Phi) (W : World) (hs : Hid (KrB w b6 bx #[.bool g1, .slice a1 k1 c1, .slice a1' k1' c1'] ψ W)) => (⟨hs.out.d.cell 0, hs.out.d.cell 1, hs.out.d.cell 2⟩ : W.cell? ⟨bx, 0, none⟩ = some (.bool g1) ∧ W.cell? ⟨bx, 1, none⟩ = some (.slice a1 k1 c1) ∧ W.cell? ⟨bx, 2, none⟩ = some (.slice a1' k1' c1')))
          obtain ⟨x0, x1, x2⟩ := hcf.out φR wr.drew hKd
          go_region_law (first
            | (go_simp; go_at_call 21; (with_reducible refine (RRatio_C HSB.out hD hM VN (Lib.hid φN.le_refl) HPR (Lib.hid (LA.out.trans (LP.out.trans (LQ.out.trans LN.out)))) HBR hR3 SN).mono ?_); rintro e wR ⟨rfl, SR⟩; have r0 : wR.cell? ⟨b6, 0, none⟩ = some (.string ⟨#[]⟩) := SR.out.a.k.cell 0; have r1' : wR.cell? ⟨b6, 1, none⟩ = some (.string ⟨#[]⟩) := SR.out.a.k.cell 1; have r2' := SR.out.a.k.frz 0; have r3' := SR.out.a.k.frz 1; obtain ⟨v0, v1, v2⟩ := hcf.out φN wR SR)
            | (go_simp; go_at_call 23; (with_reducible refine (RMinus_C (N := M) (D := M) HSB.out hD hM VA (Lib.hid (LP.out.trans LQ.out)) VQ (Lib.hid φQ.le_refl) HBM HCM SQ).mono ?_); rintro e wN ⟨gN, aN, kN, cN, aN', kN', cN', φN, rfl, SN, LN, VN⟩; obtain ⟨n0, n1, n2⟩ := hcf.out φN wN SN)
            | (go_simp; go_at_call 34; (with_reducible refine (RTimes_C (N := Z * 20000) (D := Z * 102400000000) HSB.out hD hM VR (Lib.hid (LA.out.trans LP.out)) VP (Lib.hid φP.le_refl) HBT HCT SP).mono ?_); rintro e wQ ⟨gQ, aQ, kQ, cQ, aQ', kQ', cQ', φQ, rfl, SQ, LQ, VQ⟩; obtain ⟨q0, q1, q2⟩ := hcf.out φQ wQ SQ)
            | (go_simp; go_at_call 22; (with_reducible refine (RPart_C (a := p) (b := E) (N := 20000) (D := 102400000000) HSB.out hHN SA).mono ?_); rintro e wP ⟨gP, aP, kP, cP, aP', kP', cP', φP, rfl, SP, LP, VP⟩; obtain ⟨p0, p1, p2⟩ := hcf.out φP wP SP)
            | (go_simp; go_at_call 20; (with_reducible refine (RWhole_C (n := 1) (N := 1) HSB.out HN1 hKd).mono ?_); rintro e wA ⟨gA, aA, kA, cA, aA', kA', cA', φA, rfl, SA, LA, VA⟩; obtain ⟨m0, m1, m2⟩ := hcf.out φA wA SA)
            | fail)
          all_goals
            go_wp2
            have hZ := Lib.hid ((SR.out.a.k.set 0 (.string S)).set 1 (.string T))
            have e0 : _ = some (Value.string S) := hZ.out.cell 0
            have e1 : _ = some (Value.string T) := hZ.out.cell 1
            (try simp only [Exit.inBlock, Exit.then])
            refine bodyPost_ret (v := .tuple #[.agg #[.string S, .string T], .int .i64 F]) (by simp [results, Tryz.results10, go_sem, e0, e1]) rfl ?_
            subst hb6
            exact ⟨rfl, Below_grown (Below_grown SR.out.a.bel (grown_setC _ _ _ _) SR.out.a.lo) (grown_setC _ _ _ _) SR.out.a.lo⟩
end Go.Proofs.YtngogjookldidaaGreatDoor
