/- The walk of layerOf. Conditions: the units' numbers are in their ranges. -/
import Derived.Test.YtnlhalnjbkpdnaaGreatDoorZC
namespace Go.Proofs.YtnlhalnjbkpdnaaGreatDoor
open Go.RowKit
set_option linter.unusedVariables false
set_option linter.unusedSimpArgs false
theorem slCl : SliceTy Tryz.prog 135 141 (.agg #[.int .i64 0, .int .i64 0, .slice none 0 0]) (Rep.size Clu) 40 := ⟨Tryz.underlying135, by kernel_rfl, rfl, by decide, by decide⟩
theorem szU_part {l : List Unt} {n k : Nat} {c : Int} (hn : l.length = n) (hl : n ≤ 5000) (h : ∀ u ∈ l, 1 ≤ u.2.2.2 ∧ u.2.2.2 ≤ 1000000) (hk : k ≤ n) : (0 ≤ szU (l.take k) ∧ szU (l.take k) ≤ 5000000000) ∧ 0 ≤ szU (clU (l.take k) c) ∧ szU (clU (l.take k) c) ≤ 5000000000 := by
  have h1 := szU_bd (l := l.take k) (fun u hu => h u (List.mem_of_mem_take hu))
  have h2 := szU_bd (l := clU (l.take k) c) (fun u hu => h u (List.mem_of_mem_take (clU_mem hu)))
  have h3 := clU_len (l.take k) c
  rw [List.length_take] at h1 h3
  omega
theorem clu_stepS (l : List Unt) (u1 : Int) (u2 : ByteArray) (u3 u4 : Int) : (fun x => szU (clU (l ++ [(u1, u2, u3, u4)]) x)) = updK (fun x => szU (clU l x)) u3 (szU (clU l u3) + u4) := by
  funext x
  unfold updK
  rw [clU_snoc]
  by_cases h : x = u3
  · subst h
    rw [if_pos rfl, if_pos rfl, szU_snoc]
  · rw [if_neg (fun e => h e.symm), if_neg h]
theorem clu_stepR (l : List Unt) (u1 : Int) (u2 : ByteArray) (u3 u4 : Int) : (fun x => clU (l ++ [(u1, u2, u3, u4)]) x) = updK (fun x => clU l x) u3 (clU l u3 ++ [(u1, u2, u3, u4)]) := by
  funext x
  unfold updK
  rw [clU_snoc]
  by_cases h : x = u3
  · subst h
    simp
  · rw [if_neg (fun e => h e.symm), if_neg h]
theorem key_step {l : List Unt} {u : Unt} {hd hd' : Int → Option Cl} {v : Cl} (h : ∀ x, hd x = none ↔ clU l x = []) (he : ∀ x, x ≠ u.2.2.1 → hd' x = hd x) : ∀ x, updK hd' u.2.2.1 (some v) x = none ↔ clU (l ++ [u]) x = [] := by
  intro x
  unfold updK
  rw [clU_snoc]
  by_cases e : x = u.2.2.1
  · rw [if_pos e, if_pos e.symm]
    simp
  · rw [if_neg e, if_neg (fun q => e q.symm), he x e, h]
/-- A cluster's box, while its row grows. -/
theorem LyS.cbox {w0 W w' : World} {φ : Phi} {b4 b5 r : Nat} {nm : ByteArray} {a : Option Addr} {n c : Nat} {S : Int} {hd : Int → Option Cl} {sz : Int → Int} {rw_ : Int → List Unt} (h : LyS w0 φ b4 b5 r nm a n c S hd sz rw_ W) {k : Int} {hc : Cl} (hk : hd k = some hc) (hg : W.grownBy w' (hc.a.map (·.block))) : Blk w' hc.b #[.int .i64 k, .int .i64 (sz k), .slice hc.a (rw_ k).length hc.c] 141 :=
  (hg.block hc.b (h.cl.blt (bkC_b hk)) (fun e => by
    have e1 : bkC hd (k, true) = some hc.b := by
      unfold bkC
      rw [hk]
      simpa using e.symm
    have e2 := h.cl.inj _ _ _ e1 (bkC_b hk)
    cases e2)).trans (h.cl.box k hc hk)
/-- A result's cell, a layer whose clusters are being listed. -/
structure LyT (w0 : World) (φ0 : Phi) (b4 b5 : Nat) (nm : ByteArray) (a : Option Addr) (n c : Nat) (S : Int) (aC : Option Addr) (cC : Nat) (xs : List Clu) (φ : Phi) (W : World) : Prop where
  inv : Inv w0.heap.size w0 φ0 φ W
  k4 : Blk W b4 #[.string ⟨#[]⟩, .slice none 0 0, .int .i64 0, .slice none 0 0] 137
  k5 : Blk W b5 #[.string nm, .slice a n c, .int .i64 S, .slice aC xs.length cC] 137
  own : Own w0.heap.size φ W 141 aC cC xs
  lo : w0.heap.size ≤ b4 ∧ w0.heap.size ≤ b5
  ne : b4 ≠ b5
  far : ∀ x, aC = some x → x.block ≠ b4 ∧ x.block ≠ b5
  fr : φ b4 = none ∧ φ b5 = none
section
variable {w0 W w' : World} {φ0 φ φ' : Phi} {b4 b5 : Nat} {nm : ByteArray} {a : Option Addr} {n c : Nat} {S : Int} {aC a' : Option Addr} {cC c' : Nat} {xs xs' : List Clu}
theorem LyT.call (h : LyT w0 φ0 b4 b5 nm a n c S aC cC xs φ W) (hi : Inv W.heap.size W φ φ' w') : LyT w0 φ0 b4 b5 nm a n c S aC cC xs φ' w' :=
  ⟨h.inv.call hi, h.k4.callB hi.bel, h.k5.callB hi.bel, h.own.call hi, h.lo, h.ne, h.far, (hi.new _ h.k4.lt).trans h.fr.1, (hi.new _ h.k5.lt).trans h.fr.2⟩
theorem LyT.callB (h : LyT w0 φ0 b4 b5 nm a n c S aC cC xs φ W) (hb : Below W.heap.size W w') : LyT w0 φ0 b4 b5 nm a n c S aC cC xs φ w' := h.call ((Inv.start h.inv.fz).callB hb)
theorem LyT.keep5 (h : LyT w0 φ0 b4 b5 nm a n c S aC cC xs φ W) (hg : W.grownBy w' (aC.map (·.block))) : Blk w' b4 #[.string ⟨#[]⟩, .slice none 0 0, .int .i64 0, .slice none 0 0] 137 ∧ Blk w' b5 #[.string nm, .slice a n c, .int .i64 S, .slice aC xs.length cC] 137 := by
  refine ⟨(hg.block b4 h.k4.lt (fun e => ?_)).trans h.k4, (hg.block b5 h.k5.lt (fun e => ?_)).trans h.k5⟩
  · cases aC with
    | none => cases e
    | some x => exact (h.far x rfl).1 (Option.some.inj e).symm
  · cases aC with
    | none => cases e
    | some x => exact (h.far x rfl).2 (Option.some.inj e).symm
theorem LyT.app (h : LyT w0 φ0 b4 b5 nm a n c S aC cC xs φ W) (hi : Inv w0.heap.size w0 φ0 φ w') (ho : Own w0.heap.size φ w' 141 a' c' xs') (hg : W.grownBy w' (aC.map (·.block))) (hf : ∀ x, a' = some x → aC.map (·.block) = some x.block ∨ W.heap.size ≤ x.block) :
    LyT w0 φ0 b4 b5 nm a n c S a' c' xs' φ (w'.setCell ⟨b5, 3, none⟩ (.slice a' xs'.length c')) := by
  obtain ⟨k4, k5⟩ := h.keep5 hg
  have g := grSet w' b5 3 (.slice a' xs'.length c')
  have hfar : ∀ x, a' = some x → x.block ≠ b4 ∧ x.block ≠ b5 := fun x e => by
    rcases hf x e with q | q
    · cases aC with
      | none => cases q
      | some y =>
        have e2 : y.block = x.block := by simpa using q
        have := h.far y rfl
        rw [e2] at this
        exact this
    · have h4 := h.k4.lt
      have h5 := h.k5.lt
      exact ⟨by omega, by omega⟩
  exact ⟨hi.setCell h.lo.2 h.fr.2 _, blkGr k4 g h.ne, k5.set 3 _, ho.other g (fun x e e2 => (hfar x e).2 (Option.some.inj e2)), h.lo, h.ne, hfar, h.fr⟩
end
theorem nodLen : ∀ (xs ys : List Int), xs.Nodup → (∀ x ∈ xs, x ∈ ys) → xs.length ≤ ys.length
  | [], _, _, _ => by simp
  | x :: xs, ys, hn, h => by
    rw [List.nodup_cons] at hn
    have hx := h x (by simp)
    have := nodLen xs (ys.erase x) hn.2 (fun y hy => (List.mem_erase_of_ne (fun e => hn.1 (by rw [← e]; exact hy))).2 (h y (by simp [hy])))
    rw [List.length_erase_of_mem hx] at this
    have := List.length_pos_of_mem hx
    simp only [List.length_cons]
    omega
theorem mget_mem {α : Type} {M : List (Int × α)} {x : Int} : x ∈ M.map (·.1) ↔ mget M x ≠ none := by
  constructor
  · intro h e
    exact mget_none_notMem M x e h
  · intro h
    cases hm : mget M x with
    | none => exact absurd hm h
    | some y =>
      unfold mget at hm
      rw [Option.map_eq_some_iff] at hm
      obtain ⟨p, hp, _⟩ := hm
      have h1 := List.mem_of_find?_eq_some hp
      have h2 := List.find?_some hp
      exact List.mem_map.2 ⟨p, h1, by simpa using h2⟩
theorem clU_ne {l : List Unt} {x : Int} : clU l x ≠ [] ↔ x ∈ cnsL l := by
  rw [mem_cnsL]
  constructor
  · intro h
    obtain ⟨u, hu⟩ := List.exists_mem_of_ne_nil _ h
    have := List.mem_filter.1 hu
    exact ⟨u, this.1, by simpa using this.2⟩
  · rintro ⟨u, hu, e⟩ h
    have : u ∈ clU l x := List.mem_filter.2 ⟨hu, by simpa using e⟩
    rw [h] at this
    cases this
set_option maxRecDepth 100000 in
set_option maxHeartbeats 4000000 in
theorem layerOf_any {w : World} {a : Option Addr} {c n : Nat} {l : List Unt} {φ : Phi} (hφ : Fz φ w) (s : SlV φ a c l) (hn : Hid (l.length = n)) (hl : n ≤ 5000) (nm : ByteArray) (hok : Hid (∀ u ∈ l, (0 ≤ u.2.2.1 ∧ u.2.2.1 ≤ 5000) ∧ 1 ≤ u.2.2.2 ∧ u.2.2.2 ≤ 1000000)) :
    Calls Tryz.prog 146 #[.string nm, .slice a n c] w (fun e w' => ∃ (aC : Option Addr) (cC : Nat) (φ' : Phi), e = .returned (.agg #[.string nm, .slice a n c, .int .i64 (szU l), .slice aC (cnsL l).length cC]) ∧ Inv w.heap.size w φ φ' w' ∧ SlV φ' aC cC ((cnsL l).map (cluF l))) := by
  have hS0 : Hid (LyS w φ w.heap.size (w.heap.size + 1) (w.heap.size + 1 + 1) nm a n c 0 (fun _ => none) (fun _ => 0) (fun _ => []) (((w.alloc (.cells #[.string ⟨#[]⟩, .slice none 0 0, .int .i64 0, .slice none 0 0] 137)).alloc (.cells #[.string nm, .slice a n c, .int .i64 0, .slice none 0 0] 137)).alloc (.map #[] 0))) := Lib.hid (by
    have e1 : (w.alloc (.cells #[.string ⟨#[]⟩, .slice none 0 0, .int .i64 0, .slice none 0 0] 137)).heap.size = w.heap.size + 1 := by simp
    have e2 : ((w.alloc (.cells #[.string ⟨#[]⟩, .slice none 0 0, .int .i64 0, .slice none 0 0] 137)).alloc (.cells #[.string nm, .slice a n c, .int .i64 0, .slice none 0 0] 137)).heap.size = w.heap.size + 1 + 1 := by simp
    have hi := ((Inv.start hφ).alloc (.cells #[.string ⟨#[]⟩, .slice none 0 0, .int .i64 0, .slice none 0 0] 137)).alloc (.cells #[.string nm, .slice a n c, .int .i64 0, .slice none 0 0] 137)
    have k5 := Blk.new (w.alloc (.cells #[.string ⟨#[]⟩, .slice none 0 0, .int .i64 0, .slice none 0 0] 137)) #[.string nm, .slice a n c, .int .i64 0, .slice none 0 0] 137
    have cl := ClW.new (Rv := fun b => b = w.heap.size ∨ b = w.heap.size + 1) hi
    rw [e1] at k5
    rw [e2] at cl
    exact ⟨hi.alloc _, ((Blk.new _ _ _).alloc _).alloc _, k5.alloc _, cl, ⟨Nat.le_refl _, by omega⟩, ⟨by omega, by omega, by omega⟩, ⟨hφ.new_none (Nat.le_refl _), hφ.new_none (by omega)⟩⟩)
  have hmm := @run_makeMap Tryz.prog
  have HF := Lib.hid hφ
  go_enter Tryz.func146, Tryz.ntmps146
  go_wp2
  clear hmm
  generalize ((w.alloc (.cells #[.string ⟨#[]⟩, .slice none 0 0, .int .i64 0, .slice none 0 0] 137)).alloc (.cells #[.string nm, .slice a n c, .int .i64 0, .slice none 0 0] 137)).alloc (.map #[] 0) = w3 at *
  generalize hr : w.heap.size + 1 + 1 = r at *
  generalize hb5 : w.heap.size + 1 = b5 at *
  generalize hb4 : w.heap.size = b4 at *
  clear hr hb5
  go_loopw [18] (fun i wr => ∃ (k : Nat) (hd : Int → Option Cl), k ≤ n ∧ i = .int .i64 k ∧ Hid (∀ x, hd x = none ↔ clU (l.take k) x = []) ∧ Hid (LyS w φ b4 b5 r nm a n c (szU (l.take k)) hd (fun x => szU (clU (l.take k) x)) (fun x => clU (l.take k) x) wr)) (fun i _ => n - (intOf i).toNat)
  case atStart => exact ⟨0, fun _ => none, Nat.zero_le _, rfl, Lib.hid (fun x => by simp [clU]), hS0⟩
  case round =>
    clear hS0
    obtain ⟨k, hd, hk, rfl, hky, hL⟩ := hrel
    by_cases hlt : k < n
    · obtain ⟨b, off, rfl, f⟩ := s.untD hn hlt
      obtain ⟨hb, c1, c2, c3, c4⟩ := f k hlt wr hL.out.inv.fz
      have htk := Lib.hid (take_snocD unt0 l k n hn.out hlt)
      have hum := hok.out (l.getD k unt0) (by rw [getD_elem0 _ _ _ (by rw [hn.out]; exact hlt)]; exact List.getElem_mem _)
      clear f
      generalize hU : l.getD k unt0 = U at *
      obtain ⟨u1, u2, u3, u4⟩ := U
      dsimp only at c1 c2 c3 c4 hum
      obtain ⟨⟨q1, q2⟩, q3, q4⟩ := szU_part (c := u3) hn.out hl (fun u hu => (hok.out u hu).2) hk
      have hL2 := Lib.hid (hL.out.callB ((Below.refl _ _).alloc (Nat.le_refl _) (.cells #[.int .i64 u1, .string u2, .int .i64 u3, .int .i64 u4] 64)))
      have hKj := Lib.hid (Blk.new wr #[.int .i64 u1, .string u2, .int .i64 u3, .int .i64 u4] 64)
      have hj5 : Hid (wr.heap.size ≠ b5) := Lib.hid (by have := hL.out.k5.lt; omega)
      have hjc : Hid (∀ p x, bkC hd p = some x → x ≠ wr.heap.size) := Lib.hid (fun p x hx => by have := hL.out.cl.blt hx; omega)
      have hjr : Hid (wr.heap.size ≠ r) := Lib.hid (by have := hL.out.cl.lt; omega)
      clear hU
      go_upto_region 6 with (fail)
      clear c1 c2 c3 c4 hb
      generalize wr.alloc (.cells #[.int .i64 u1, .string u2, .int .i64 u3, .int .i64 u4] 64) = wj at *
      generalize wr.heap.size = bj at *
      have hsz := Lib.hid (szU_snoc (l.take k) (u1, u2, u3, u4))
      generalize hS : szU (l.take k) = S0 at *
      have hS := Lib.hid hS
      have y3 : wj.cell? ⟨bj, 3, none⟩ = some (.int .i64 u4) := hKj.out.cell 3
      have x2 : wj.cell? ⟨b5, 2, none⟩ = some (.int .i64 S0) := hL2.out.k5.cell 2
      have x3 := hL2.out.k5.frz 2
      have hw1 : IntKind.i64.wrap (S0 + u4) = S0 + u4 := IntWalk.i64_in _ (by omega)
      go_upto_region 7 with (fail)
      have hL3 := Lib.hid (hL2.out.size (S0 + u4))
      have hKa := Lib.hid (blkGr hKj.out (grSet wj b5 2 (.int .i64 (S0 + u4))) hj5.out)
      clear y3 x2 x3
      generalize wj.setCell ⟨b5, 2, none⟩ (.int .i64 (S0 + u4)) = wk at *
      have y2 : wk.cell? ⟨bj, 2, none⟩ = some (.int .i64 u3) := hKa.out.cell 2
      have hlk := hL3.out.cl.look u3 wk rfl
      obtain ⟨Q0, hQ⟩ : ∃ Q0, Hid (szU (clU (l.take k) u3) = Q0) := ⟨_, Lib.hid rfl⟩
      rw [hQ.out] at q3 q4
      obtain ⟨xs, hX⟩ : ∃ xs, Hid (clU (l.take k) u3 = xs) := ⟨_, Lib.hid rfl⟩
      have hnl : xs.length ≤ 5000 := by rw [← hX.out]; have := clU_len (l.take k) u3; rw [List.length_take] at this; omega
      have hw2 : IntKind.i64.wrap (Q0 + u4) = Q0 + u4 := IntWalk.i64_in _ (by omega)
      cases hh0 : hd u3 with
      | none =>
        rw [hh0] at hlk
        have hlk2 : (Instr.lookup 241 (.map (some r)) (.int .i64 u3) false).run Tryz.prog wk = .ok (.pointer none) wk := hlk
        clear hlk
        obtain ⟨o, hup, hL4⟩ := hL3.out.add hh0
        have hal : (wk.alloc (.cells #[.int .i64 u3, .int .i64 0, .slice none 0 0] 141)).heap[r]? = wk.heap[r]? := ((Below.refl wk.heap.size wk).alloc (Nat.le_refl _) _).block r hL3.out.cl.lt
        have hup2 := hup (wk.alloc (.cells #[.int .i64 u3, .int .i64 0, .slice none 0 0] 141)) hal
        have hKc := Lib.hid (hKa.out.alloc (.cells #[.int .i64 u3, .int .i64 0, .slice none 0 0] 141))
        have y2b : (wk.alloc (.cells #[.int .i64 u3, .int .i64 0, .slice none 0 0] 141)).cell? ⟨bj, 2, none⟩ = some (.int .i64 u3) := hKc.out.cell 2
        have hjr : Hid (bj ≠ r) := hjr
        have HL4 := Lib.hid hL4
        clear hup hal hL4
        go_upto_region 11 with (fail)
        have hh : Hid (updK hd u3 (some ⟨wk.heap.size, none, 0⟩) u3 = some ⟨wk.heap.size, none, 0⟩) := Lib.hid (by unfold updK; rw [if_pos rfl])
        have hKb := Lib.hid (blkGr hKc.out (setMap_grown _ r o) hjr.out)
        have hcb : Hid (bj ≠ wk.heap.size) := Lib.hid (by have := hKa.out.lt; omega)
        have hX0 : Hid (clU (l.take k) u3 = []) := Lib.hid ((hky.out u3).1 hh0)
        have hL5 := HL4
        have hexk : Hid (∀ x, x ≠ u3 → updK hd u3 (some ⟨wk.heap.size, none, 0⟩) x = hd x) := Lib.hid (fun x hx => by unfold updK; rw [if_neg hx])
        clear HL4 y2b hup2 hlk2 y2 hKc
        generalize setMap (wk.alloc (.cells #[.int .i64 u3, .int .i64 0, .slice none 0 0] 141)) r o = wm at *
        generalize wk.heap.size = cb at *
        have hcz := (hL5.out.cl.box u3 _ hh.out)
        have z0 : wm.cell? ⟨cb, 1, none⟩ = some (.int .i64 Q0) := by have h := hcz.cell 1; rw [hQ.out] at h; exact h
        have z1 : wm.frozen? ⟨cb, 1, none⟩ = false := hcz.frz 1
        have y3 : wm.cell? ⟨bj, 3, none⟩ = some (.int .i64 u4) := hKb.out.cell 3
        go_region
        have hL6 := Lib.hid ((hL5.out.csize hh.out (Q0 + u4)).callB (bdrewN (Below.refl _ _) 1))
        have hK6 := Lib.hid (blkGr hKb.out (grSet wm cb 1 (.int .i64 (Q0 + u4))) hcb.out)
        clear z0 z1 y3 hcz
        have hL6 : Hid (LyS w φ b4 b5 r nm (some ⟨b, off, none⟩) n c (S0 + u4) (updK hd u3 (some ⟨cb, none, 0⟩)) (updK (fun x => szU (clU (l.take k) x)) u3 (Q0 + u4)) (fun x => clU (l.take k) x) (wm.setCell ⟨cb, 1, none⟩ (.int .i64 (Q0 + u4))).drew) := hL6
        have hK6 : Hid (Blk (wm.setCell ⟨cb, 1, none⟩ (.int .i64 (Q0 + u4))).drew bj #[.int .i64 u1, .string u2, .int .i64 u3, .int .i64 u4] 64) := hK6
        generalize (wm.setCell ⟨cb, 1, none⟩ (.int .i64 (Q0 + u4))).drew = w6 at *
        have hc6 := (hL6.out.cl.box u3 _ hh.out)
        have v2 : w6.cell? ⟨cb, 2, none⟩ = some (.slice none xs.length 0) := by have h := hc6.cell 2; rw [hX.out] at h; exact h
        have v0 : w6.cell? ⟨bj, 0, none⟩ = some (.int .i64 u1) := hK6.out.cell 0
        have v1 : w6.cell? ⟨bj, 1, none⟩ = some (.string u2) := hK6.out.cell 1
        have v3 : w6.cell? ⟨bj, 2, none⟩ = some (.int .i64 u3) := hK6.out.cell 2
        have v4 : w6.cell? ⟨bj, 3, none⟩ = some (.int .i64 u4) := hK6.out.cell 3
        have vd2 : w6.drew.cell? ⟨cb, 2, none⟩ = some (.slice none xs.length 0) := v2
        have vd0 : w6.drew.cell? ⟨bj, 0, none⟩ = some (.int .i64 u1) := v0
        have vd1 : w6.drew.cell? ⟨bj, 1, none⟩ = some (.string u2) := v1
        have vd3 : w6.drew.cell? ⟨bj, 2, none⟩ = some (.int .i64 u3) := v3
        have vd4 : w6.drew.cell? ⟨bj, 3, none⟩ = some (.int .i64 u4) := v4
        go_upto_region 12 with (fail)
        have hLA : Hid (LyS w φ b4 b5 r nm (some ⟨b, off, none⟩) n c (S0 + u4) (updK hd u3 (some ⟨cb, none, 0⟩)) (updK (fun x => szU (clU (l.take k) x)) u3 (Q0 + u4)) (fun x => clU (l.take k) x) (w6.alloc (.cells #[.int .i64 u1, .string u2, .int .i64 u3, .int .i64 u4] 64)).drew) := Lib.hid ((hL6.out.callB ((Below.refl _ _).alloc (Nat.le_refl _) _)).callB (bdrewN (Below.refl _ _) 1))
        have HIA := Lib.hid hLA.out.inv
        have va2 : (w6.alloc (.cells #[.int .i64 u1, .string u2, .int .i64 u3, .int .i64 u4] 64)).drew.cell? ⟨cb, 2, none⟩ = some (.slice none xs.length 0) := by have h := (hLA.out.cl.box u3 _ hh.out).cell 2; rw [hX.out] at h; exact h
        have HOA : Hid (Own w.heap.size φ (w6.alloc (.cells #[.int .i64 u1, .string u2, .int .i64 u3, .int .i64 u4] 64)).drew 64 none 0 xs) := Lib.hid (by have h := hLA.out.cl.row u3 _ hh.out; rw [hX.out] at h; exact h)
        have HRU := Lib.hid (fun φ => rep_unt φ (u1, u2, u3, u4))
        have HBX := Lib.hid (fun (w' : World) (hg : ((w6.alloc (.cells #[.int .i64 u1, .string u2, .int .i64 u3, .int .i64 u4] 64)).drew).grownBy w' ((none : Option Addr).map (·.block))) => hLA.out.cbox hh.out hg)
        go_region_law (first
          | (refine step_appF (α := Unt) (by rfl) _ _ _ (by rfl) slUn HIA.out none 0 xs (by rfl) HOA.out ⟨w6.heap.size, 0, none⟩ 1 [(u1, u2, u3, u4)] [.int .i64 u1, .string u2, .int .i64 u3, .int .i64 u4] 1 (by rfl) (by rfl) (RepL.single (HRU.out _)) (World.news_of_block (cs := #[.int .i64 u1, .string u2, .int .i64 u3, .int .i64 u4]) (t := 64) (fr := (0, 0)) (heap_alloc_new w6 _)) (by show (xs.length + 1) * 40 ≤ 140737488355328; omega) ?_; intro a7 c7 w7 hi7 ho7 hg7 hf7; have hbx := HBX.out w7 hg7; have t0 : w7.cell? ⟨cb, 2, none⟩ = some _ := hbx.cell 2; have t1 : w7.frozen? ⟨cb, 2, none⟩ = false := hbx.frz 2; have hL7 := Lib.hid (hLA.out.crow hh.out hi7 ho7 hg7 hf7); clear hbx hi7 ho7 hg7 hf7)
          | fail)
        all_goals
          have hL8 : Hid (LyS w φ b4 b5 r nm (some ⟨b, off, none⟩) n c (S0 + u4) (updK (updK hd u3 (some ⟨cb, none, 0⟩)) u3 (some ⟨cb, a7, c7⟩)) (updK (fun x => szU (clU (l.take k) x)) u3 (Q0 + u4)) (updK (fun x => clU (l.take k) x) u3 (xs ++ [(u1, u2, u3, u4)])) (w7.setCell ⟨cb, 2, none⟩ (.slice a7 (xs.length + 1) c7))) := Lib.hid (by have h := hL7.out; rw [List.length_append] at h; exact h)
          clear hL7 t0 t1
          generalize w7.setCell ⟨cb, 2, none⟩ (.slice a7 (xs.length + 1) c7) = w8 at *
          have hL9 : Hid (LyS w φ b4 b5 r nm (some ⟨b, off, none⟩) n c (szU (l.take (k + 1))) (updK (updK hd u3 (some ⟨cb, none, 0⟩)) u3 (some ⟨cb, a7, c7⟩)) (fun x => szU (clU (l.take (k + 1)) x)) (fun x => clU (l.take (k + 1)) x) w8) := Lib.hid (by
            rw [htk.out, hsz.out, clu_stepS, clu_stepR, hQ.out, hX.out]
            exact hL8.out)
          have hky2 : Hid (∀ x, updK (updK hd u3 (some ⟨cb, none, 0⟩)) u3 (some ⟨cb, a7, c7⟩) x = none ↔ clU (l.take (k + 1)) x = []) := Lib.hid (by
            rw [htk.out]
            exact key_step (u := (u1, u2, u3, u4)) hky.out hexk.out)
          clear hL8
          go_wp2
          go_roundw
          case rel => exact ⟨k + 1, _, by omega, by go_num, hky2, hL9⟩
          case measure => (simp [intOf] <;> omega)
      | some hc =>
        rw [hh0] at hlk
        have hlk2 : (Instr.lookup 241 (.map (some r)) (.int .i64 u3) false).run Tryz.prog wk = .ok (.pointer (some ⟨hc.b, 0, none⟩)) wk := hlk
        have hh := Lib.hid hh0
        clear hlk hh0
        obtain ⟨cb, ca, cc⟩ := hc
        go_upto_region 11 with (fail)
        have hL5 := hL3
        have hKb := hKa
        have hcb : Hid (bj ≠ cb) := Lib.hid (fun e => hjc.out _ _ (bkC_b hh.out) e.symm)
        have hcz := (hL5.out.cl.box u3 _ hh.out)
        have z0 : wk.cell? ⟨cb, 1, none⟩ = some (.int .i64 Q0) := by have h := hcz.cell 1; rw [hQ.out] at h; exact h
        have z1 : wk.frozen? ⟨cb, 1, none⟩ = false := hcz.frz 1
        have y3 : wk.cell? ⟨bj, 3, none⟩ = some (.int .i64 u4) := hKb.out.cell 3
        go_region
        have hL6 := Lib.hid ((hL5.out.csize hh.out (Q0 + u4)).callB (bdrewN (Below.refl _ _) 1))
        have hK6 := Lib.hid (blkGr hKb.out (grSet wk cb 1 (.int .i64 (Q0 + u4))) hcb.out)
        clear z0 z1 y3 hcz
        have hL6 : Hid (LyS w φ b4 b5 r nm (some ⟨b, off, none⟩) n c (S0 + u4) hd (updK (fun x => szU (clU (l.take k) x)) u3 (Q0 + u4)) (fun x => clU (l.take k) x) (wk.setCell ⟨cb, 1, none⟩ (.int .i64 (Q0 + u4))).drew) := hL6
        have hK6 : Hid (Blk (wk.setCell ⟨cb, 1, none⟩ (.int .i64 (Q0 + u4))).drew bj #[.int .i64 u1, .string u2, .int .i64 u3, .int .i64 u4] 64) := hK6
        generalize (wk.setCell ⟨cb, 1, none⟩ (.int .i64 (Q0 + u4))).drew = w6 at *
        have hc6 := (hL6.out.cl.box u3 _ hh.out)
        have v2 : w6.cell? ⟨cb, 2, none⟩ = some (.slice ca xs.length cc) := by have h := hc6.cell 2; rw [hX.out] at h; exact h
        have v0 : w6.cell? ⟨bj, 0, none⟩ = some (.int .i64 u1) := hK6.out.cell 0
        have v1 : w6.cell? ⟨bj, 1, none⟩ = some (.string u2) := hK6.out.cell 1
        have v3 : w6.cell? ⟨bj, 2, none⟩ = some (.int .i64 u3) := hK6.out.cell 2
        have v4 : w6.cell? ⟨bj, 3, none⟩ = some (.int .i64 u4) := hK6.out.cell 3
        have vd2 : w6.drew.cell? ⟨cb, 2, none⟩ = some (.slice ca xs.length cc) := v2
        have vd0 : w6.drew.cell? ⟨bj, 0, none⟩ = some (.int .i64 u1) := v0
        have vd1 : w6.drew.cell? ⟨bj, 1, none⟩ = some (.string u2) := v1
        have vd3 : w6.drew.cell? ⟨bj, 2, none⟩ = some (.int .i64 u3) := v3
        have vd4 : w6.drew.cell? ⟨bj, 3, none⟩ = some (.int .i64 u4) := v4
        go_upto_region 12 with (fail)
        have hLA : Hid (LyS w φ b4 b5 r nm (some ⟨b, off, none⟩) n c (S0 + u4) hd (updK (fun x => szU (clU (l.take k) x)) u3 (Q0 + u4)) (fun x => clU (l.take k) x) (w6.alloc (.cells #[.int .i64 u1, .string u2, .int .i64 u3, .int .i64 u4] 64)).drew) := Lib.hid ((hL6.out.callB ((Below.refl _ _).alloc (Nat.le_refl _) _)).callB (bdrewN (Below.refl _ _) 1))
        have HIA := Lib.hid hLA.out.inv
        have va2 : (w6.alloc (.cells #[.int .i64 u1, .string u2, .int .i64 u3, .int .i64 u4] 64)).drew.cell? ⟨cb, 2, none⟩ = some (.slice ca xs.length cc) := by have h := (hLA.out.cl.box u3 _ hh.out).cell 2; rw [hX.out] at h; exact h
        have HOA : Hid (Own w.heap.size φ (w6.alloc (.cells #[.int .i64 u1, .string u2, .int .i64 u3, .int .i64 u4] 64)).drew 64 ca cc xs) := Lib.hid (by have h := hLA.out.cl.row u3 _ hh.out; rw [hX.out] at h; exact h)
        have HRU := Lib.hid (fun φ => rep_unt φ (u1, u2, u3, u4))
        have HBX := Lib.hid (fun (w' : World) (hg : ((w6.alloc (.cells #[.int .i64 u1, .string u2, .int .i64 u3, .int .i64 u4] 64)).drew).grownBy w' ((ca : Option Addr).map (·.block))) => hLA.out.cbox hh.out hg)
        go_region_law (first
          | (refine step_appF (α := Unt) (by rfl) _ _ _ (by rfl) slUn HIA.out ca cc xs (by rfl) HOA.out ⟨w6.heap.size, 0, none⟩ 1 [(u1, u2, u3, u4)] [.int .i64 u1, .string u2, .int .i64 u3, .int .i64 u4] 1 (by rfl) (by rfl) (RepL.single (HRU.out _)) (World.news_of_block (cs := #[.int .i64 u1, .string u2, .int .i64 u3, .int .i64 u4]) (t := 64) (fr := (0, 0)) (heap_alloc_new w6 _)) (by show (xs.length + 1) * 40 ≤ 140737488355328; omega) ?_; intro a7 c7 w7 hi7 ho7 hg7 hf7; have hbx := HBX.out w7 hg7; have t0 : w7.cell? ⟨cb, 2, none⟩ = some _ := hbx.cell 2; have t1 : w7.frozen? ⟨cb, 2, none⟩ = false := hbx.frz 2; have hL7 := Lib.hid (hLA.out.crow hh.out hi7 ho7 hg7 hf7); clear hbx hi7 ho7 hg7 hf7)
          | fail)
        all_goals
          have hL8 : Hid (LyS w φ b4 b5 r nm (some ⟨b, off, none⟩) n c (S0 + u4) (updK hd u3 (some ⟨cb, a7, c7⟩)) (updK (fun x => szU (clU (l.take k) x)) u3 (Q0 + u4)) (updK (fun x => clU (l.take k) x) u3 (xs ++ [(u1, u2, u3, u4)])) (w7.setCell ⟨cb, 2, none⟩ (.slice a7 (xs.length + 1) c7))) := Lib.hid (by have h := hL7.out; rw [List.length_append] at h; exact h)
          clear hL7 t0 t1
          generalize w7.setCell ⟨cb, 2, none⟩ (.slice a7 (xs.length + 1) c7) = w8 at *
          have hL9 : Hid (LyS w φ b4 b5 r nm (some ⟨b, off, none⟩) n c (szU (l.take (k + 1))) (updK hd u3 (some ⟨cb, a7, c7⟩)) (fun x => szU (clU (l.take (k + 1)) x)) (fun x => clU (l.take (k + 1)) x) w8) := Lib.hid (by
            rw [htk.out, hsz.out, clu_stepS, clu_stepR, hQ.out, hX.out]
            exact hL8.out)
          have hky2 : Hid (∀ x, updK hd u3 (some ⟨cb, a7, c7⟩) x = none ↔ clU (l.take (k + 1)) x = []) := Lib.hid (by
            rw [htk.out]
            exact key_step (u := (u1, u2, u3, u4)) hky.out (fun x hx => rfl))
          clear hL8
          go_wp2
          go_roundw
          case rel => exact ⟨k + 1, _, by omega, by go_num, hky2, hL9⟩
          case measure => (simp [intOf] <;> omega)
    · obtain rfl : n = k := by omega
      have ex : l.take n = l := by rw [← hn.out, List.take_length]
      rw [ex] at hky hL
      obtain ⟨φ1, hle1, hI1, hF1, hoth⟩ := hL.out.cl.frz hL.out.inv
      have hT : Hid (LyT w φ b4 b5 nm a n c (szU l) none 0 [] φ1 wr) := Lib.hid ⟨hI1, hL.out.k4, hL.out.k5, Own.nil _ _ _ _, hL.out.lo, hL.out.ne.1, (fun x e => by cases e), (hoth b4 (.inl rfl) hL.out.ne.2.1).trans hL.out.fr.1, (hoth b5 (.inr rfl) hL.out.ne.2.2).trans hL.out.fr.2⟩
      have hF := Lib.hid hF1
      obtain ⟨o, M, m1, m2, m3⟩ := hF1.map
      have hmk : Hid (∀ x, x ∈ M.map (·.1) ↔ x ∈ cnsL l) := Lib.hid (fun x => by
        rw [mget_mem, m3, ← clU_ne, ne_eq, Option.map_eq_none_iff, hky.out])
      have hML : Hid (M.length ≤ 20000) := Lib.hid (by
        have h1 := nodLen (M.map (·.1)) (l.map (fun u => u.2.2.1)) m2.nodup (fun x hx => by
          have := (hmk.out x).1 hx
          unfold cnsL at this
          exact mem_risI.1 this)
        rw [List.length_map, List.length_map, hn.out] at h1
        omega)
      have hMI : Hid (∀ p ∈ M, IsI64 p.1) := Lib.hid (fun p hp => by
        have h1 := (hmk.out p.1).1 (List.mem_map.2 ⟨p, hp, rfl⟩)
        obtain ⟨u, hu, e⟩ := mem_cnsL.1 h1
        have := (hok.out u hu).1
        unfold IsI64
        omega)
      have hns : Hid (risI (M.map (·.1)) = cnsL l) := Lib.hid (by
        unfold cnsL
        exact risI_eq (risI_pw _) (fun x => by
          rw [mem_risI, hmk.out]
          unfold cnsL
          exact mem_risI))
      have hb1 := Lib.hid (hI1.fz r o m1)
      have HM2 := Lib.hid m2
      obtain ⟨ns, hnn⟩ : ∃ ns, Hid (cnsL l = ns) := ⟨_, Lib.hid rfl⟩
      obtain ⟨m, hml⟩ : ∃ m, Hid (ns.length = m) := ⟨_, Lib.hid rfl⟩
      have hm5 : m ≤ 5000 := by
        rw [← hml.out, ← hnn.out]
        have h1 := nodLen (cnsL l) (l.map (fun u => u.2.2.1)) (by unfold cnsL; exact (risI_pw _).imp (fun {a b} h e => by omega)) (fun x hx => by unfold cnsL at hx; exact mem_risI.1 hx)
        rw [List.length_map, hn.out] at h1
        omega
      have hT0 := Lib.hid (hT.out.callB ((Below.refl _ _).alloc (Nat.le_refl _) (.cells #[.map (some r)] 241)))
      rw [hnn.out] at hns
      clear hL hI1 hF1 m1 m2 m3 hoth
      go_wp2_with (first
        | (go_at_call 203; (with_reducible refine (KeysI_any _ _).mono ?_); rintro e w5 ⟨rfl, rfl⟩)
        | (go_at_call 117; (with_reducible refine (SortedI_any hT.out.inv.fz HM2.out hb1.out hML.out hMI.out hns).mono ?_); rintro e w6 ⟨a6, c6, φ6, rfl, hi6, s6⟩; rw [hml.out])
        | fail)
      have hT6 := Lib.hid (hT0.out.call hi6)
      have hF6 := Lib.hid (hF.out.mono hi6.le)
      clear hi6 hT hT0 hF
      go_loopw [66] (fun i wq => ∃ (k : Nat) (aC : Option Addr) (cC : Nat) (xs : List Clu), k ≤ m ∧ i = .int .i64 k ∧ Hid ((ns.take k).map (cluF l) = xs) ∧ Hid (LyT w φ b4 b5 nm a n c (szU l) aC cC xs φ6 wq)) (fun i _ => m - (intOf i).toNat)
      case atStart => exact ⟨0, none, 0, [], Nat.zero_le _, rfl, Lib.hid rfl, hT6⟩
      case round =>
        clear hT6
        rename World => wq
        obtain ⟨k, aC, cC, xs, hk, rfl, hxs, hT⟩ := hrel
        by_cases hlt : k < m
        · obtain ⟨b', off', rfl, f⟩ := s6.intsD hml hlt
          obtain ⟨hb', d1⟩ := f k hlt wq hT.out.inv.fz
          have htk := Lib.hid (take_snocD 0 ns k m hml.out hlt)
          have hxm : ns.getD k 0 ∈ cnsL l := by rw [hnn.out, getD_elem0 _ _ _ (by rw [hml.out]; exact hlt)]; exact List.getElem_mem _
          clear f
          generalize ns.getD k 0 = x at *
          have hnx : Hid ((ns.take (k + 1)).map (cluF l) = xs ++ [cluF l x]) := Lib.hid (by rw [htk.out, List.map_append, hxs.out]; rfl)
          have hxl : xs.length ≤ 5000 := by rw [← hxs.out, List.length_map, List.length_take]; omega
          obtain ⟨hc, hhc⟩ : ∃ hc, hd x = some hc := by
            cases hh : hd x with
            | some hc => exact ⟨hc, rfl⟩
            | none => exact absurd ((hky.out x).1 hh) (clU_ne.2 hxm)
          obtain ⟨cb, ca, cc⟩ := hc
          have hlk := Lib.hid (hF6.out.look hhc)
          have hbx := Lib.hid (hF6.out.box x _ hhc)
          have hrw := hF6.out.row x _ hhc
          obtain ⟨lx, hlx⟩ : ∃ lx, Hid (clU l x = lx) := ⟨_, Lib.hid rfl⟩
          obtain ⟨sx, hsx⟩ : ∃ sx, Hid (szU lx = sx) := ⟨_, Lib.hid rfl⟩
          have hcx : Hid (cluF l x = (x, sx, lx)) := Lib.hid (by unfold cluF; rw [hlx.out, hsx.out])
          rw [hcx.out] at hnx
          dsimp only at hbx hrw
          rw [hlx.out, hsx.out] at hbx
          rw [hlx.out] at hrw
          have HRP : Hid (Rep.rep φ6 ((x, sx, lx) : Clu) [.int .i64 x, .int .i64 sx, .slice ca lx.length cc]) := Lib.hid ⟨[.int .i64 x], [.int .i64 sx, .slice ca lx.length cc], rfl, rfl, [.int .i64 sx], [.slice ca lx.length cc], rfl, rfl, ca, cc, rfl, hrw⟩
          have hcl := Lib.hid (fun W (hf : Fz φ6 W) => (⟨(hf.blk hbx.out).cell 0, (hf.blk hbx.out).cell 1, (hf.blk hbx.out).cell 2⟩ : W.cell? ⟨cb, 0, none⟩ = some (.int .i64 x) ∧ W.cell? ⟨cb, 1, none⟩ = some (.int .i64 sx) ∧ W.cell? ⟨cb, 2, none⟩ = some (.slice ca lx.length cc)))
          clear hhc hrw hxm htk
          go_upto_region 17 with (fail)
          have hTd := Lib.hid (hT.out.callB (bdrewN (Below.refl _ wq) 1))
          have hTd : Hid (LyT w φ b4 b5 nm a n c (szU l) aC cC xs φ6 wq.drew) := hTd
          have hTA : Hid (LyT w φ b4 b5 nm a n c (szU l) aC cC xs φ6 (wq.alloc (.cells #[.int .i64 x, .int .i64 sx, .slice ca lx.length cc] 141)).drew) := Lib.hid ((hT.out.callB ((Below.refl _ _).alloc (Nat.le_refl _) _)).callB (bdrewN (Below.refl _ _) 1))
          have v3 : wq.cell? ⟨b5, 3, none⟩ = some (.slice aC xs.length cC) := hT.out.k5.cell 3
          have vd3 : wq.drew.cell? ⟨b5, 3, none⟩ = some (.slice aC xs.length cC) := v3
          have va3 : (wq.alloc (.cells #[.int .i64 x, .int .i64 sx, .slice ca lx.length cc] 141)).drew.cell? ⟨b5, 3, none⟩ = some (.slice aC xs.length cC) := hTA.out.k5.cell 3
          have g1 := hlk.out wq hT.out.inv.fz
          have g2 := hlk.out wq.drew hTd.out.inv.fz
          obtain ⟨p0, p1, p2⟩ := hcl.out wq hT.out.inv.fz
          obtain ⟨pd0, pd1, pd2⟩ := hcl.out wq.drew hTd.out.inv.fz
          have HIA := Lib.hid hTA.out.inv
          have HOA := Lib.hid hTA.out.own
          have HKP := Lib.hid (fun (w' : World) (hg : ((wq.alloc (.cells #[.int .i64 x, .int .i64 sx, .slice ca lx.length cc] 141)).drew).grownBy w' (aC.map (·.block))) => hTA.out.keep5 hg)
          go_region_law (first
            | (refine step_appF (α := Clu) (by rfl) _ _ _ (by rfl) slCl HIA.out aC cC xs (by rfl) HOA.out ⟨wq.heap.size, 0, none⟩ 1 [(x, sx, lx)] [.int .i64 x, .int .i64 sx, .slice ca lx.length cc] 1 (by rfl) (by rfl) (RepL.single HRP.out) (World.news_of_block (cs := #[.int .i64 x, .int .i64 sx, .slice ca lx.length cc]) (t := 141) (fr := (0, 0)) (heap_alloc_new wq _)) (by show (xs.length + 1) * 40 ≤ 140737488355328; omega) ?_; intro a7 c7 w7 hi7 ho7 hg7 hf7; have hk7 := HKP.out w7 hg7; have t0 : w7.cell? ⟨b5, 3, none⟩ = some _ := hk7.2.cell 3; have t1 : w7.frozen? ⟨b5, 3, none⟩ = false := hk7.2.frz 3; have hT7 := Lib.hid (hTA.out.app hi7 ho7 hg7 hf7); clear hk7 hi7 ho7 hg7 hf7)
            | fail)
          all_goals
            have hT8 : Hid (LyT w φ b4 b5 nm a n c (szU l) a7 c7 (xs ++ [(x, sx, lx)]) φ6 (w7.setCell ⟨b5, 3, none⟩ (.slice a7 (xs.length + 1) c7))) := Lib.hid (by have h := hT7.out; rw [List.length_append] at h; exact h)
            clear hT7 t0 t1 v3 vd3 va3 g1 g2 p0 p1 p2 pd0 pd1 pd2
            generalize w7.setCell ⟨b5, 3, none⟩ (.slice a7 (xs.length + 1) c7) = w8 at *
            go_wp2
            go_roundw
            case rel => exact ⟨k + 1, a7, c7, xs ++ [(x, sx, lx)], by omega, by go_num, hnx, hT8⟩
            case measure => (simp [intOf] <;> omega)
        · obtain rfl : m = k := by omega
          have ey : ns.take m = ns := by rw [← hml.out, List.take_length]
          rw [ey] at hxs
          have k0 : wq.cell? ⟨b5, 0, none⟩ = some (.string nm) := hT.out.k5.cell 0
          have k1 : wq.cell? ⟨b5, 1, none⟩ = some (.slice a n c) := hT.out.k5.cell 1
          have k2 : wq.cell? ⟨b5, 2, none⟩ = some (.int .i64 (szU l)) := hT.out.k5.cell 2
          have k3 : wq.cell? ⟨b5, 3, none⟩ = some (.slice aC xs.length cC) := hT.out.k5.cell 3
          have j0 : wq.cell? ⟨b4, 0, none⟩ = some (.string ⟨#[]⟩) := hT.out.k4.cell 0
          have j1 : wq.cell? ⟨b4, 1, none⟩ = some (.slice none 0 0) := hT.out.k4.cell 1
          have j2 : wq.cell? ⟨b4, 2, none⟩ = some (.int .i64 0) := hT.out.k4.cell 2
          have j3 : wq.cell? ⟨b4, 3, none⟩ = some (.slice none 0 0) := hT.out.k4.cell 3
          have i0 := hT.out.k4.frz 0
          have i1 := hT.out.k4.frz 1
          have i2 := hT.out.k4.frz 2
          have i3 := hT.out.k4.frz 3
          generalize hS : szU l = S at *
          replace hS := Lib.hid hS
          go_wp2
          have hZ := Lib.hid ((((hT.out.k4.set 0 (.string nm)).set 1 (.slice a n c)).set 2 (.int .i64 S)).set 3 (.slice aC xs.length cC))
          have hI := Lib.hid ((((hT.out.inv.setCell hT.out.lo.1 hT.out.fr.1 (off := 0) (.string nm)).setCell hT.out.lo.1 hT.out.fr.1 (off := 1) (.slice a n c)).setCell hT.out.lo.1 hT.out.fr.1 (off := 2) (.int .i64 S)).setCell hT.out.lo.1 hT.out.fr.1 (off := 3) (.slice aC xs.length cC))
          have hfr : Hid (∀ x, aC = some x → some x.block ≠ some b4) := Lib.hid (fun x e e2 => (hT.out.far x e).1 (Option.some.inj e2))
          have hO := Lib.hid ((((hT.out.own.other (grSet _ b4 0 (.string nm)) hfr.out).other (grSet _ b4 1 (.slice a n c)) hfr.out).other (grSet _ b4 2 (.int .i64 S)) hfr.out).other (grSet _ b4 3 (.slice aC xs.length cC)) hfr.out)
          have e0 : _ = some (Value.string nm) := hZ.out.cell 0
          have e1 : _ = some (Value.slice a n c) := hZ.out.cell 1
          have e2 : _ = some (Value.int .i64 S) := hZ.out.cell 2
          have e3 : _ = some (Value.slice aC xs.length cC) := hZ.out.cell 3
          (try simp only [Exit.inBlock, Exit.then])
          refine bodyPost_ret (v := .agg #[.string nm, .slice a n c, .int .i64 S, .slice aC xs.length cC]) (by simp [results, Tryz.results146, go_sem, e0, e1, e2, e3]) rfl ?_
          obtain ⟨φ', hle, hi, hsl, _⟩ := hO.out.release hI.out
          subst hb4
          refine ⟨aC, cC, φ', ?_, hi, by rw [hnn.out, hxs.out]; exact hsl⟩
          rw [← hxs.out, List.length_map, hnn.out, hS.out]
end Go.Proofs.YtnlhalnjbkpdnaaGreatDoor
