/- The walk of the reference's sorted. Conditions: none beyond what the claim form gives. -/
import Derived.Test.YtambgcijceecpaaDoorQB
import Derived.Deep.DeepCutAuto
namespace Go.Proofs.YtambgcijceecpaaDoor
open Go.RowKit
set_option linter.unusedVariables false
theorem SlV.drop {α : Type} [Rep α] {φ : Phi} {b off cap : Nat} {xs : List α} (h : SlV φ (some ⟨b, off, none⟩) cap xs) {k : Nat} (hk : k ≤ xs.length) : SlV φ (some ⟨b, off + k * Rep.size α, none⟩) (cap - k) (xs.drop k) := by
  have h1 := h.capn; have h2 := h.capm
  refine ⟨by rw [List.length_drop]; omega, by omega, (fun e => by cases e), fun hne => ?_⟩
  obtain ⟨b', off', ha, hc⟩ := h.at_ (by intro e; subst e; simp at hne)
  cases ha
  refine ⟨b, off + k * Rep.size α, rfl, fun j hj => ?_⟩
  rw [List.length_drop] at hj
  obtain ⟨cs, h3, h4⟩ := hc (k + j) (by omega)
  refine ⟨cs, by rw [List.getElem_drop]; exact h3, fun i hi => ?_⟩
  rw [← h4 i hi]
  congr 2
  rw [Nat.add_mul]; omega
/-- Two readings of one heap. -/
def Phi.join (φ ψ : Phi) : Phi := fun b => (φ b).or (ψ b)
theorem Phi.le_join1 (φ ψ : Phi) : φ.le (φ.join ψ) := fun b o h => by unfold Phi.join; rw [h]; rfl
theorem Phi.le_join2 {φ ψ : Phi} {w : World} (h : Fz φ w) (k : Fz ψ w) : ψ.le (φ.join ψ) := fun b o hb => by
  unfold Phi.join
  cases hφ : φ b with
  | none => exact hb
  | some o' =>
    have h1 := h b o' hφ
    have h2 := k b o hb
    rw [h1] at h2
    exact h2
theorem Fz.join {φ ψ : Phi} {w : World} (h : Fz φ w) (k : Fz ψ w) : Fz (φ.join ψ) w := fun b o hb => by
  unfold Phi.join at hb
  cases hφ : φ b with
  | none => rw [hφ] at hb; exact k b o hb
  | some o' => rw [hφ] at hb; cases hb; exact h b _ hφ
/-- Sorted by weight, size and order. -/
def Sor (fs : List Fld) (l : List (List Int)) : Prop := l.Pairwise (fun x y => ahead fs y x = false)
def SortPost (fs : List Fld) (gs : List (List Int)) (φ : Phi) (w : World) (e : Ending) (w' : World) : Prop :=
  ∃ rs φ' a cap, e = .returned (.slice a rs.length cap) ∧ Inv w.heap.size w φ φ' w' ∧ SlV φ' a cap rs ∧ rs.Perm gs ∧ Sor fs rs
theorem Sor.one {fs : List Fld} {gs : List (List Int)} (h : gs.length < 2) : Sor fs gs := by
  match gs, h with
  | [], _ => exact List.Pairwise.nil
  | [x], _ => exact List.pairwise_singleton _ _
  | x :: y :: l, h => exact absurd h (by simp)
structure SPair (fs : List Fld) (gs : List (List Int)) (h : Nat) (w : World) (φ φ' : Phi) (bx : Nat) (cs : Array Value) (a5 : Option Addr) (c5 : Nat) (r5 : List (List Int)) (a6 : Option Addr) (c6 : Nat) (r6 : List (List Int)) (wx : World) : Prop where
  inv : Inv bx w φ φ' wx
  k : Blk wx bx cs 25
  s5 : SlV φ' a5 c5 r5
  s6 : SlV φ' a6 c6 r6
  p5 : r5.Perm (gs.take h)
  p6 : r6.Perm (gs.drop h)
  o5 : Sor fs r5
  o6 : Sor fs r6
theorem slLL : SliceTy Tryd.prog 40 26 (.slice none 0 0) (Rep.size (List Int)) 24 := ⟨Tryd.underlying40, by kernel_rfl, rfl, by decide, by decide⟩
def slLen : Value → Nat
  | .slice _ k _ => k
  | _ => 0
theorem SlV.tail1 {α : Type} [Rep α] {φ : Phi} {b off cap : Nat} {x : α} {xs : List α} (h1 : Rep.size α = 1) (h : SlV φ (some ⟨b, off, none⟩) cap (x :: xs)) : SlV φ (some ⟨b, off + 1, none⟩) (cap - 1) xs := by
  have := h.drop (k := 1) (by simp)
  simpa [h1] using this
theorem SlV.tail0 {α : Type} [Rep α] {φ : Phi} {b off : Nat} {x : α} {xs : List α} (h : SlV φ (some ⟨b, off, none⟩) 1 (x :: xs)) : xs = [] ∧ SlV φ (some ⟨b, off, none⟩) 0 xs := by
  have h1 := h.capn
  have h2 : xs = [] := List.eq_nil_of_length_eq_zero (by rw [List.length_cons] at h1; omega)
  subst h2
  exact ⟨rfl, by simp, by simp [maxLen], (fun e => by cases e), fun e => absurd rfl e⟩
/-- The state of a merge: what is out, what is left of both. -/
structure MgSt (fs : List Fld) (n : Nat) (gs : List (List Int)) (w : World) (φ φ1 : Phi) (bx : Nat) (cs : Array Value) (ao : Option Addr) (co : Nat) (outs : List (List Int)) (a5 : Option Addr) (c5 : Nat) (us : List (List Int)) (a6 : Option Addr) (c6 : Nat) (vs : List (List Int)) (wr : World) : Prop where
  inv : Inv bx w φ φ1 wr
  own : Own bx φ1 wr 26 ao co outs
  k : Blk wr bx cs 25
  far : ∀ x, ao = some x → x.block ≠ bx
  s5 : SlV φ1 a5 c5 us
  s6 : SlV φ1 a6 c6 vs
  perm : (outs ++ (us ++ vs)).Perm gs
  oo : Sor fs outs
  o5 : Sor fs us
  o6 : Sor fs vs
  le : ∀ o ∈ outs, ∀ x ∈ us ++ vs, ahead fs x o = false
section
variable {fs : List Fld} {n : Nat} {gs : List (List Int)} {w : World} {φ φ1 : Phi} {bx : Nat} {cs : Array Value} {ao a' : Option Addr} {co c' : Nat} {outs : List (List Int)} {a5 : Option Addr} {c5 : Nat} {us : List (List Int)} {a6 : Option Addr} {c6 : Nat} {vs : List (List Int)} {wr w' : World} {x y : List Int}
theorem MgSt.callB (h : MgSt fs n gs w φ φ1 bx cs ao co outs a5 c5 us a6 c6 vs wr) (hb : Below wr.heap.size wr w') : MgSt fs n gs w φ φ1 bx cs ao co outs a5 c5 us a6 c6 vs w' :=
  ⟨h.inv.callB hb, h.own.callB hb, h.k.callB hb, h.far, h.s5, h.s6, h.perm, h.oo, h.o5, h.o6, h.le⟩
theorem far_of {w wr w' : World} {bx : Nat} {cs : Array Value} {T : TypeId} {ao a' : Option Addr} {o : Obj} (hk : Blk wr bx cs T) (far : ∀ x, ao = some x → x.block ≠ bx) (hg : (wr.alloc o).grownBy w' (ao.map (·.block))) (hf : ∀ x, a' = some x → ao.map (·.block) = some x.block ∨ (wr.alloc o).heap.size ≤ x.block) : Blk w' bx cs T ∧ ∀ x, a' = some x → x.block ≠ bx := by
  have k := hk.alloc o
  refine ⟨(hg.block bx k.lt (fun e => ?_)).trans k, fun x hx => ?_⟩
  · cases ao with
    | none => cases e
    | some z => exact far z rfl (by simpa using e.symm)
  · rcases hf x hx with hh | hh
    · cases ao with
      | none => cases hh
      | some z => have := far z rfl; simp at hh; omega
    · have := k.lt; omega
theorem sor_snoc {outs : List (List Int)} {y : List Int} (h : Sor fs outs) (hy : ∀ o ∈ outs, ahead fs y o = false) : Sor fs (outs ++ [y]) := by
  unfold Sor
  rw [List.pairwise_append]
  exact ⟨h, List.pairwise_singleton _ _, fun a ha b hb => by rw [List.mem_singleton] at hb; subst hb; exact hy a ha⟩
/-- The second one's head comes ahead. -/
theorem MgSt.take6 (h : MgSt fs n gs w φ φ1 bx cs ao co outs a5 c5 (x :: us) a6 c6 (y :: vs) wr) (hxy : ahead fs y x = true) {o : Obj} (hi : Inv bx w φ φ1 w') (ho : Own bx φ1 w' 26 a' c' (outs ++ [y])) (hg : (wr.alloc o).grownBy w' (ao.map (·.block))) (hf : ∀ x, a' = some x → ao.map (·.block) = some x.block ∨ (wr.alloc o).heap.size ≤ x.block) {a7 : Option Addr} {c7 : Nat} (s7 : SlV φ1 a7 c7 vs) :
    MgSt fs n gs w φ φ1 bx cs a' c' (outs ++ [y]) a5 c5 (x :: us) a7 c7 vs w' := by
  obtain ⟨k1, k2⟩ := far_of (w := w) h.k h.far hg hf
  have o6 := h.o6
  unfold Sor at o6
  rw [List.pairwise_cons] at o6
  have o5 := h.o5
  unfold Sor at o5
  rw [List.pairwise_cons] at o5
  refine ⟨hi, ho, k1, k2, h.s5, s7, ?_, sor_snoc h.oo (fun o ho => h.le o ho y (by simp)), h.o5, o6.2, fun o ho z hz => ?_⟩
  · refine List.Perm.trans ?_ h.perm
    rw [List.append_assoc]
    refine List.Perm.append_left _ ?_
    exact (List.perm_middle (a := y) (l₁ := x :: us) (l₂ := vs)).symm
  · rcases List.mem_append.1 ho with ho | ho
    · exact h.le o ho z (by rcases List.mem_append.1 hz with hz | hz; exact List.mem_append.2 (.inl hz); exact List.mem_append.2 (.inr (List.mem_cons_of_mem _ hz)))
    · obtain rfl := List.mem_singleton.1 ho
      rcases List.mem_append.1 hz with hz | hz
      · cases hq : ahead fs z o with
        | false => rfl
        | true =>
          have h1 := ahead_trans hq hxy
          rcases List.mem_cons.1 hz with rfl | hz
          · rw [ahead_irrefl] at h1; cases h1
          · rw [o5.1 z hz] at h1; cases h1
      · exact o6.1 z hz
theorem MgSt.take5 (h : MgSt fs n gs w φ φ1 bx cs ao co outs a5 c5 (x :: us) a6 c6 (y :: vs) wr) (hxy : ahead fs y x = false) {o : Obj} (hi : Inv bx w φ φ1 w') (ho : Own bx φ1 w' 26 a' c' (outs ++ [x])) (hg : (wr.alloc o).grownBy w' (ao.map (·.block))) (hf : ∀ x, a' = some x → ao.map (·.block) = some x.block ∨ (wr.alloc o).heap.size ≤ x.block) {a7 : Option Addr} {c7 : Nat} (s7 : SlV φ1 a7 c7 us) :
    MgSt fs n gs w φ φ1 bx cs a' c' (outs ++ [x]) a7 c7 us a6 c6 (y :: vs) w' := by
  obtain ⟨k1, k2⟩ := far_of (w := w) h.k h.far hg hf
  have o6 := h.o6
  unfold Sor at o6
  rw [List.pairwise_cons] at o6
  have o5 := h.o5
  unfold Sor at o5
  rw [List.pairwise_cons] at o5
  refine ⟨hi, ho, k1, k2, s7, h.s6, ?_, sor_snoc h.oo (fun o ho => h.le o ho x (by simp)), o5.2, h.o6, fun o ho z hz => ?_⟩
  · refine List.Perm.trans ?_ h.perm
    rw [List.append_assoc]
    exact List.Perm.refl _
  · rcases List.mem_append.1 ho with ho | ho
    · exact h.le o ho z (by rcases List.mem_append.1 hz with hz | hz; exact List.mem_append.2 (.inl (List.mem_cons_of_mem _ hz)); exact List.mem_append.2 (.inr hz))
    · obtain rfl := List.mem_singleton.1 ho
      rcases List.mem_append.1 hz with hz | hz
      · exact o5.1 z hz
      · rcases List.mem_cons.1 hz with rfl | hz
        · exact hxy
        · cases hq : ahead fs z o with
          | false => rfl
          | true =>
            -- z ahead of x, y not ahead of x: then z ahead of y or equal
            have h1 := o6.1 z hz
            cases h2 : ahead fs o y with
            | true => rw [ahead_trans hq h2] at h1; cases h1
            | false =>
              have := ahead_total hxy h2
              subst this
              rw [hq] at h1; cases h1
theorem MgSt.fin (h : MgSt fs n gs w φ φ1 bx cs ao co outs a5 c5 us a6 c6 vs wr) (h0 : us = [] ∨ vs = []) : (outs ++ us ++ vs).Perm gs ∧ Sor fs (outs ++ us ++ vs) := by
  refine ⟨by rw [List.append_assoc]; exact h.perm, ?_⟩
  have hs : Sor fs (us ++ vs) := by
    rcases h0 with rfl | rfl
    · exact h.o6
    · rw [List.append_nil]; exact h.o5
  rw [List.append_assoc]
  unfold Sor at *
  rw [List.pairwise_append]
  exact ⟨h.oo, hs, h.le⟩
end
set_option maxRecDepth 100000 in
set_option maxHeartbeats 2000000 in
theorem sorted_any
  (n : Nat) (a : Option Addr) (cap : Nat) (fs : List Fld) (m : Nat) (ae : Option Addr) (ce : Nat) (es : List Edt) (ok : Hid (PlOk fs es n m))
    : ∀ (N : Nat), N ≤ 4096 → ∀ (gs : List (List Int)), gs.length ≤ N → ∀ (k : Nat), Hid (gs.length = k) → ∀ (w : World) (φ : Phi) (hφ : Fz φ w) (s : SlV φ a cap fs) (se : SlV φ ae ce es) (a1 : Option Addr) (c1 : Nat) (sg : SlV φ a1 c1 gs) (hg : Hid (∀ l ∈ gs, SetG n l)),
    Calls Tryd.prog 94 #[.agg #[.slice a n cap, .slice ae m ce], .slice a1 k c1] w (SortPost fs gs φ w) := by
  intro N
  induction N with
  | zero =>
    intro hN gs hgl k hk w φ hφ s se a1 c1 sg hg
    have hS0 := Lib.hid ((Inv.start hφ).alloc (.cells #[.slice a n cap, .slice ae m ce] 25))
    have hk2 : (k : Int) < 2 := by have := hk.out; omega
    have hso : Hid (Sor fs gs) := Lib.hid (Sor.one (by omega))
    go_enter Tryd.func94, Tryd.ntmps94
    go_wp2
    go_ret
    exact ⟨gs, φ, a1, c1, by rw [hk.out]; rfl, hS0.out, sg, List.Perm.refl _, hso.out⟩
  | succ N ih =>
    intro hN gs hgl k hk w φ hφ s se a1 c1 sg hg
    have hS0 := Lib.hid ((Inv.start hφ).alloc (.cells #[.slice a n cap, .slice ae m ce] 25))
    have hB0 := Lib.hid (BxSt.new hφ #[.slice a n cap, .slice ae m ce] 25)
    by_cases hk2 : k < 2
    · have hso : Hid (Sor fs gs) := Lib.hid (Sor.one (by rw [hk.out]; exact hk2))
      go_enter Tryd.func94, Tryd.ntmps94
      go_wp2
      go_ret
      exact ⟨gs, φ, a1, c1, by rw [hk.out]; rfl, hS0.out, sg, List.Perm.refl _, hso.out⟩
    have IH := Lib.hid (ih (by omega))
    clear ih
    have hkN : k ≤ 4096 := by have := hk.out; omega
    obtain ⟨b, off, rfl, _⟩ := sg.lists hk (k := 0) (by omega)
    obtain ⟨h, hh⟩ : ∃ h, h = k / 2 := ⟨_, rfl⟩
    have hh1 : 1 ≤ h ∧ h < k := by omega
    have hdiv : (k : Int) / 2 = (h : Int) := by rw [hh]; simp
    have hdiv2 : (k : Int).tdiv 2 = (h : Int) := by rw [Int.tdiv_eq_ediv_of_nonneg (by omega)]; exact hdiv
    have hcp := sg.capn
    have hcm := sg.capm
    rw [hk.out] at hcp
    unfold maxLen at hcm
    have st := sg.take h
    have sd := sg.drop (k := h) (by rw [hk.out]; omega)
    have sd' : SlV φ (some ⟨b, off + h, none⟩) (c1 - h) (gs.drop h) := by simpa [Rep.size] using sd
    have hlt1 : Hid ((gs.take h).length = h) := Lib.hid (by rw [List.length_take, hk.out]; omega)
    have hld1 : Hid ((gs.drop h).length = k - h) := Lib.hid (by rw [List.length_drop, hk.out])
    have hgt : Hid (∀ l ∈ gs.take h, SetG n l) := Lib.hid (fun l hl => hg.out l (List.mem_of_mem_take hl))
    have hgd : Hid (∀ l ∈ gs.drop h, SetG n l) := Lib.hid (fun l hl => hg.out l (List.mem_of_mem_drop hl))
    have g1 := Lib.hid (IH.out (gs.take h) (by rw [hlt1.out]; have := hk.out; omega) h hlt1)
    have g2 := Lib.hid (IH.out (gs.drop h) (by rw [hld1.out]; have := hk.out; omega) (k - h) hld1)
    have HH := Lib.hid hh
    have hhc : h ≤ c1 := by omega
    have hhk : h ≤ k := by omega
    have hhn : ¬ c1 = h := by omega
    have hhn2 : ¬ h = c1 := by omega
    clear hh IH
    go_enter Tryd.func94, Tryd.ntmps94
    go_wp2
    generalize w.alloc (.cells #[.slice a n cap, .slice ae m ce] 25) = W at *
    generalize hbx : w.heap.size = bx at *
    replace hbx := Lib.hid hbx
    have p0 : W.cell? ⟨bx, 0, none⟩ = some (.slice a n cap) := hB0.out.k.cell 0
    have p1 : W.cell? ⟨bx, 1, none⟩ = some (.slice ae m ce) := hB0.out.k.cell 1
    go_cut [5, 6] (fun s5 s6 wx => ∃ φ' a5 c5 r5 a6 c6 r6, s5 = .slice a5 r5.length c5 ∧ s6 = .slice a6 r6.length c6 ∧ Hid (SPair fs gs h w φ φ' bx #[.slice a n cap, .slice ae m ce] a5 c5 r5 a6 c6 r6 wx))
    case first =>
      have hwr : IntKind.i64.wrap (h : Int) = (h : Int) := IntWalk.i64_in _ (by omega)
      refine wp_region_any (by kernel_rfl) ?_
      change wpAny _ _ _ _ _ _ _ (World.drew _)
      refine wpAny_take (i := 1) (v := ?_) rfl (by kernel_rfl) (by kernel_rfl) (by kernel_rfl) (fun _ _ _ h => h) (Or.inl ⟨by rfl, ?_⟩) ?_
      rotate_left
      · intro w
        go_simp
        try with_reducible rfl
      refine wpAny_take (i := 2) (v := ?_) rfl (by kernel_rfl) (by kernel_rfl) (by kernel_rfl) (fun _ _ _ h => h) (Or.inl ⟨by rfl, ?_⟩) ?_
      rotate_left
      · intro w
        go_simp
        try with_reducible rfl
      refine wpAny_take (i := 3) (v := ?_) rfl (by kernel_rfl) (by kernel_rfl) (by kernel_rfl) (fun _ _ _ h => h) (Or.inl ⟨by rfl, ?_⟩) ?_
      rotate_left
      · intro w
        go_simp
        try with_reducible rfl
      refine wpAny_take (i := 4) (v := ?_) rfl (by kernel_rfl) (by kernel_rfl) (by kernel_rfl) (fun _ _ _ h => h) (Or.inl ⟨by rfl, ?_⟩) ?_
      rotate_left
      · intro w
        go_simp
        try with_reducible rfl
      refine wpAny_take (i := 5) (v := ?_) rfl (by kernel_rfl) (by kernel_rfl) (by kernel_rfl) (fun _ _ _ h => h) (Or.inl ⟨by rfl, ?_⟩) ?_
      rotate_left
      · intro w
        go_simp
        try with_reducible rfl
      refine wpAny_take (i := 8) (v := ?_) rfl (by kernel_rfl) (by kernel_rfl) (by kernel_rfl) (fun _ _ _ h => h) (Or.inl ⟨by rfl, ?_⟩) ?_
      rotate_left
      · intro w
        go_simp
        try with_reducible rfl
      refine wpAny_take (i := 9) (v := ?_) rfl (by kernel_rfl) (by kernel_rfl) (by kernel_rfl) (fun _ _ _ h => h) (Or.inl ⟨by rfl, ?_⟩) ?_
      rotate_left
      · intro w
        go_simp
        try with_reducible rfl
      refine wpAny_take (i := 10) (v := ?_) rfl (by kernel_rfl) (by kernel_rfl) (by kernel_rfl) (fun _ _ _ h => h) (Or.inl ⟨by rfl, ?_⟩) ?_
      rotate_left
      · intro w
        go_simp
        try with_reducible rfl
      refine wpAny_take (i := 11) (v := ?_) rfl (by kernel_rfl) (by kernel_rfl) (by kernel_rfl) (fun _ _ _ h => h) (Or.inl ⟨by rfl, ?_⟩) ?_
      rotate_left
      · intro w
        go_simp
        try with_reducible rfl
      refine wpAny_take (i := 12) (v := ?_) rfl (by kernel_rfl) (by kernel_rfl) (by kernel_rfl) (fun _ _ _ h => h) (Or.inl ⟨by rfl, ?_⟩) ?_
      rotate_left
      · intro w
        go_simp
        try with_reducible rfl
      have hI1 := Lib.hid hS0.out.drew
      have hBd := Lib.hid (hB0.out.callB ((Below.refl _ _).drew) : BxSt w φ bx #[.slice a n cap, .slice ae m ce] 25 W.drew)
      refine wpAny_ready (rs := [0, 7]) (by kernel_rfl) (by simp) ?_
      refine AllReady.cons rfl (fun K hK => ?_) (AllReady.cons rfl (fun K hK => ?_) AllReady.nil)
      · go_simp
        refine hK _ _ ?_
        clear hK K
        refine wpAny_ready (rs := [6, 7]) (by kernel_rfl) (by simp) ?_
        refine AllReady.cons rfl (fun K hK => ?_) (AllReady.cons rfl (fun K hK => ?_) AllReady.nil)
        · go_simp
          go_wp2_with (go_at_call 94; refine (g1.out _ φ hI1.out.fz s se (some ⟨b, off, none⟩) c1 st hgt).mono ?_; rintro e w5 ⟨r5, φ5, a5, c5, rfl, hi5, s5, p5, o5⟩; have hS5 := Lib.hid (hBd.out.callB hi5.bel); have hI5 := Lib.hid (hI1.out.call hi5); have p50 : w5.cell? ⟨bx, 0, none⟩ = some (.slice a n cap) := hS5.out.k.cell 0; have p51 : w5.cell? ⟨bx, 1, none⟩ = some (.slice ae m ce) := hS5.out.k.cell 1)
          refine wpAny_ready (rs := [7]) (by kernel_rfl) (by simp) ?_
          refine AllReady.cons rfl (fun K hK => ?_) AllReady.nil
          go_simp
          refine hK _ _ ?_
          clear hK K
          refine wpAny_ready (rs := [13]) (by kernel_rfl) (by simp) ?_
          refine AllReady.cons rfl (fun K hK => ?_) AllReady.nil
          go_simp
          go_wp2_with (go_at_call 94; refine (g2.out _ φ5 hI5.out.fz (s.mono hI5.out.le) (se.mono hI5.out.le) (some ⟨b, off + h, none⟩) (c1 - h) (sd'.mono hI5.out.le) hgd).mono ?_; rintro e w6 ⟨r6, φ6, a6, c6, rfl, hi6, s6, p6, o6⟩; have hI6 := Lib.hid (hI5.out.call hi6); have hB6 := Lib.hid (hS5.out.callB hi6.bel))
          refine wpAny_take (i := 14) (v := ?_) rfl (by kernel_rfl) (by kernel_rfl) (by kernel_rfl) (fun _ _ _ h => h) (Or.inl ⟨by rfl, ?_⟩) ?_
          rotate_left
          · intro w
            go_simp
            try with_reducible rfl
          refine wpAny_take (i := 15) (v := ?_) rfl (by kernel_rfl) (by kernel_rfl) (by kernel_rfl) (fun _ _ _ h => h) (Or.inl ⟨by rfl, ?_⟩) ?_
          rotate_left
          · intro w
            go_simp
            try with_reducible rfl
          refine wpAny_done (by kernel_rfl) ?_ _
          go_wp2_with fail
          go_meet
          exact ⟨φ6, a5, c5, r5, a6, c6, r6, rfl, rfl, Lib.hid ⟨hI6.out, hB6.out.k, s5.mono hi6.le, s6, p5, p6, o5, o6⟩⟩
        · go_simp
          refine hK _ _ ?_
          clear hK K
          refine wpAny_ready (rs := [6]) (by kernel_rfl) (by simp) ?_
          refine AllReady.cons rfl (fun K hK => ?_) AllReady.nil
          go_simp
          go_wp2_with (go_at_call 94; refine (g1.out _ φ hI1.out.fz s se (some ⟨b, off, none⟩) c1 st hgt).mono ?_; rintro e w5 ⟨r5, φ5, a5, c5, rfl, hi5, s5, p5, o5⟩; have hS5 := Lib.hid (hBd.out.callB hi5.bel); have hI5 := Lib.hid (hI1.out.call hi5); have p50 : w5.cell? ⟨bx, 0, none⟩ = some (.slice a n cap) := hS5.out.k.cell 0; have p51 : w5.cell? ⟨bx, 1, none⟩ = some (.slice ae m ce) := hS5.out.k.cell 1)
          refine wpAny_ready (rs := [13]) (by kernel_rfl) (by simp) ?_
          refine AllReady.cons rfl (fun K hK => ?_) AllReady.nil
          go_simp
          go_wp2_with (go_at_call 94; refine (g2.out _ φ5 hI5.out.fz (s.mono hI5.out.le) (se.mono hI5.out.le) (some ⟨b, off + h, none⟩) (c1 - h) (sd'.mono hI5.out.le) hgd).mono ?_; rintro e w6 ⟨r6, φ6, a6, c6, rfl, hi6, s6, p6, o6⟩; have hI6 := Lib.hid (hI5.out.call hi6); have hB6 := Lib.hid (hS5.out.callB hi6.bel))
          refine wpAny_take (i := 14) (v := ?_) rfl (by kernel_rfl) (by kernel_rfl) (by kernel_rfl) (fun _ _ _ h => h) (Or.inl ⟨by rfl, ?_⟩) ?_
          rotate_left
          · intro w
            go_simp
            try with_reducible rfl
          refine wpAny_take (i := 15) (v := ?_) rfl (by kernel_rfl) (by kernel_rfl) (by kernel_rfl) (fun _ _ _ h => h) (Or.inl ⟨by rfl, ?_⟩) ?_
          rotate_left
          · intro w
            go_simp
            try with_reducible rfl
          refine wpAny_done (by kernel_rfl) ?_ _
          go_wp2_with fail
          go_meet
          exact ⟨φ6, a5, c5, r5, a6, c6, r6, rfl, rfl, Lib.hid ⟨hI6.out, hB6.out.k, s5.mono hi6.le, s6, p5, p6, o5, o6⟩⟩
      · go_simp
        refine hK _ _ ?_
        clear hK K
        refine wpAny_ready (rs := [0]) (by kernel_rfl) (by simp) ?_
        refine AllReady.cons rfl (fun K hK => ?_) AllReady.nil
        go_simp
        refine hK _ _ ?_
        clear hK K
        refine wpAny_ready (rs := [6]) (by kernel_rfl) (by simp) ?_
        refine AllReady.cons rfl (fun K hK => ?_) AllReady.nil
        go_simp
        go_wp2_with (go_at_call 94; refine (g1.out _ φ hI1.out.fz s se (some ⟨b, off, none⟩) c1 st hgt).mono ?_; rintro e w5 ⟨r5, φ5, a5, c5, rfl, hi5, s5, p5, o5⟩; have hS5 := Lib.hid (hBd.out.callB hi5.bel); have hI5 := Lib.hid (hI1.out.call hi5); have p50 : w5.cell? ⟨bx, 0, none⟩ = some (.slice a n cap) := hS5.out.k.cell 0; have p51 : w5.cell? ⟨bx, 1, none⟩ = some (.slice ae m ce) := hS5.out.k.cell 1)
        refine wpAny_ready (rs := [13]) (by kernel_rfl) (by simp) ?_
        refine AllReady.cons rfl (fun K hK => ?_) AllReady.nil
        go_simp
        go_wp2_with (go_at_call 94; refine (g2.out _ φ5 hI5.out.fz (s.mono hI5.out.le) (se.mono hI5.out.le) (some ⟨b, off + h, none⟩) (c1 - h) (sd'.mono hI5.out.le) hgd).mono ?_; rintro e w6 ⟨r6, φ6, a6, c6, rfl, hi6, s6, p6, o6⟩; have hI6 := Lib.hid (hI5.out.call hi6); have hB6 := Lib.hid (hS5.out.callB hi6.bel))
        refine wpAny_take (i := 14) (v := ?_) rfl (by kernel_rfl) (by kernel_rfl) (by kernel_rfl) (fun _ _ _ h => h) (Or.inl ⟨by rfl, ?_⟩) ?_
        rotate_left
        · intro w
          go_simp
          try with_reducible rfl
        refine wpAny_take (i := 15) (v := ?_) rfl (by kernel_rfl) (by kernel_rfl) (by kernel_rfl) (fun _ _ _ h => h) (Or.inl ⟨by rfl, ?_⟩) ?_
        rotate_left
        · intro w
          go_simp
          try with_reducible rfl
        refine wpAny_done (by kernel_rfl) ?_ _
        go_wp2_with fail
        go_meet
        exact ⟨φ6, a5, c5, r5, a6, c6, r6, rfl, rfl, Lib.hid ⟨hI6.out, hB6.out.k, s5.mono hi6.le, s6, p5, p6, o5, o6⟩⟩
    case rest =>
      obtain ⟨φ1, a5, c5, r5, a6, c6, r6, rfl, rfl, hP⟩ := hcut
      have hM : Hid (MgSt fs n gs w φ φ1 bx #[.slice a n cap, .slice ae m ce] none 0 [] a5 c5 r5 a6 c6 r6 wc) := Lib.hid ⟨hP.out.inv, Own.nil _ _ _ _, hP.out.k, (fun _ h => by cases h), hP.out.s5, hP.out.s6, by
        have := hP.out.p5.append hP.out.p6
        rw [List.take_append_drop] at this
        exact this, List.Pairwise.nil, hP.out.o5, hP.out.o6, fun o ho => by simp at ho⟩
      clear hP g1 g2 p0 p1 hB0 hS0 st sd sd' hgt hgd hlt1 hld1
      go_wp2
      go_loopw [5, 6, 7] (fun va vb vo wr => ∃ (us vs outs : List (List Int)) (a5 : Option Addr) (c5 : Nat) (a6 : Option Addr) (c6 : Nat) (ao : Option Addr) (co : Nat), va = .slice a5 us.length c5 ∧ vb = .slice a6 vs.length c6 ∧ vo = .slice ao outs.length co ∧ Hid (MgSt fs n gs w φ φ1 bx #[.slice a n cap, .slice ae m ce] ao co outs a5 c5 us a6 c6 vs wr)) (fun va vb _ _ => slLen va + slLen vb)
      case atStart => exact ⟨r5, r6, [], a5, c5, a6, c6, none, 0, rfl, rfl, rfl, hM⟩
      case round =>
        clear hM
        obtain ⟨us, vs, outs, a5, c5, a6, c6, ao, co, rfl, rfl, rfl, hM⟩ := hrel
        have hlen : outs.length + (us.length + vs.length) = k := by
          have := hM.out.perm.length_eq
          rw [List.length_append, List.length_append, hk.out] at this
          exact this
        cases us with
        | nil =>
          have hfin := Lib.hid (MgSt.fin hM.out (by first | exact .inl rfl | exact .inr rfl))
          have hi := hM.out.inv
          have ho := hM.out.own
          have s5 := hM.out.s5
          have s6 := hM.out.s6
          first | (simp only [List.length_cons] at hlen) | (simp only [List.length_nil] at hlen)
          go_wp2_with (first
            | (at_builtin; (refine wpList_apps (α := List Int) rfl _ _ 40 rfl slLL hi ao co outs ho a5 c5 _ s5 rfl rfl (by first | (simp only [List.length_cons]; omega) | (simp only [List.length_nil]; omega)) ?_; intro a7 c7 w7 hi7 ho7 hg7; generalize hL7 : (outs ++ [] : List (List Int)) = L7 at *; replace hL7 := Lib.hid hL7))
            | (at_builtin; (refine wpList_apps (α := List Int) rfl _ _ 40 rfl slLL hi7 a7 c7 _ ho7 a6 c6 _ s6 rfl rfl (by have h := congrArg List.length hL7.out; rw [List.length_append] at h; first | (simp only [List.length_cons] at h ⊢; omega) | (simp only [List.length_cons] at h; omega) | (simp only [List.length_nil] at h; omega) | omega) ?_; intro a8 c8 w8 hi8 ho8 hg8; generalize hL8 : (L7 ++ vs : List (List Int)) = L8 at *; replace hL8 := Lib.hid hL8)))
          obtain ⟨φ9, l9, i9, s9, _⟩ := ho8.release hi8
          go_ret
          have hf := hfin.out
          exact ⟨L8, φ9, a8, c8, rfl, by rw [hbx.out]; exact i9, s9, hf.1, hf.2⟩
        | cons x us =>
          cases vs with
          | nil =>
            have hfin := Lib.hid (MgSt.fin hM.out (by first | exact .inl rfl | exact .inr rfl))
            have hi := hM.out.inv
            have ho := hM.out.own
            have s5 := hM.out.s5
            have s6 := hM.out.s6
            first | (simp only [List.length_cons] at hlen) | (simp only [List.length_nil] at hlen)
            go_wp2_with (first
              | (at_builtin; (refine wpList_apps (α := List Int) rfl _ _ 40 rfl slLL hi ao co outs ho a5 c5 _ s5 rfl rfl (by first | (simp only [List.length_cons]; omega) | (simp only [List.length_nil]; omega)) ?_; intro a7 c7 w7 hi7 ho7 hg7; generalize hL7 : (outs ++ (x :: us) : List (List Int)) = L7 at *; replace hL7 := Lib.hid hL7))
              | (at_builtin; (refine wpList_apps (α := List Int) rfl _ _ 40 rfl slLL hi7 a7 c7 _ ho7 a6 c6 _ s6 rfl rfl (by have h := congrArg List.length hL7.out; rw [List.length_append] at h; first | (simp only [List.length_cons] at h ⊢; omega) | (simp only [List.length_cons] at h; omega) | (simp only [List.length_nil] at h; omega) | omega) ?_; intro a8 c8 w8 hi8 ho8 hg8; generalize hL8 : (L7 ++ [] : List (List Int)) = L8 at *; replace hL8 := Lib.hid hL8)))
            obtain ⟨φ9, l9, i9, s9, _⟩ := ho8.release hi8
            go_ret
            have hf := hfin.out
            exact ⟨L8, φ9, a8, c8, rfl, by rw [hbx.out]; exact i9, s9, hf.1, hf.2⟩
          | cons y vs =>
            obtain ⟨b5, o5, rfl, f5⟩ := hM.out.s5.lists (n := us.length + 1) (Lib.hid rfl) (k := 0) (by omega)
            obtain ⟨ax, cx, sx, f5⟩ := f5 0 (by omega)
            obtain ⟨b6, o6, rfl, f6⟩ := hM.out.s6.lists (n := vs.length + 1) (Lib.hid rfl) (k := 0) (by omega)
            obtain ⟨ay, cy, sy, f6⟩ := f6 0 (by omega)
            have F5 : Hid (∀ w', Fz φ1 w' → w'.cell? ⟨b5, o5, none⟩ = some (.slice ax x.length cx)) := Lib.hid (fun w' h => (f5 w' h).2)
            have F6 : Hid (∀ w', Fz φ1 w' → w'.cell? ⟨b6, o6, none⟩ = some (.slice ay y.length cy)) := Lib.hid (fun w' h => (f6 w' h).2)
            change SlV φ1 ax cx x at sx
            change SlV φ1 ay cy y at sy
            clear f5 f6
            have hgx : Hid (SetG n x) := Lib.hid (hg.out x (hM.out.perm.mem_iff.1 (by simp)))
            have hgy : Hid (SetG n y) := Lib.hid (hg.out y (hM.out.perm.mem_iff.1 (by simp)))
            obtain ⟨lx, hlx⟩ : ∃ j, Hid (x.length = j) := ⟨_, Lib.hid rfl⟩
            obtain ⟨ly, hly⟩ : ∃ j, Hid (y.length = j) := ⟨_, Lib.hid rfl⟩
            rw [hlx.out] at F5
            rw [hly.out] at F6
            obtain ⟨t, ht⟩ : ∃ t, Hid (ahead fs y x = t) := ⟨_, Lib.hid rfl⟩
            simp only [List.length_cons] at hlen
            go_wp2
            refine wp_region_still_tail 7 (by kernel_rfl) (by kernel_rfl) ?_
            simp only [List.take_succ_cons, List.take_zero, List.drop_succ_cons, List.drop_zero]
            change wpStill _ _ (World.drew wr) (fun a' => wpList _ _ _ _ a' (World.drew wr)) _ _
            have hMd := Lib.hid (hM.out.callB ((Below.refl _ _).drew) : MgSt fs n gs w φ φ1 bx #[.slice a n cap, .slice ae m ce] ao co outs (some ⟨b5, o5, none⟩) c5 (x :: us) (some ⟨b6, o6, none⟩) c6 (y :: vs) wr.drew)
            generalize wr.drew = wz at *
            have d5 := F5.out wz hMd.out.inv.fz
            have d6 := F6.out wz hMd.out.inv.fz
            have p0 : wz.cell? ⟨bx, 0, none⟩ = some (.slice a n cap) := hMd.out.k.cell 0
            have p1 : wz.cell? ⟨bx, 1, none⟩ = some (.slice ae m ce) := hMd.out.k.cell 1
            repeat still_step
            refine wpStill_nil ?_
            go_wp2_with fail
            refine (Rahead_any n a cap fs m ae ce es ok wz φ1 hMd.out.inv.fz (s.mono hMd.out.inv.le) (se.mono hMd.out.inv.le) ly ay cy y sy hly hgy lx ax cx x sx hlx hgx ht).mono ?_
            rintro e w5 ⟨rfl, hb5⟩
            have hM5 := Lib.hid (hMd.out.callB hb5)
            have d5 := F5.out w5 hM5.out.inv.fz
            have d6 := F6.out w5 hM5.out.inv.fz
            clear hb5 hMd hM p0 p1
            have hMz := Lib.hid (hM5.out.callB ((Below.refl _ _).drew) : MgSt fs n gs w φ φ1 bx #[.slice a n cap, .slice ae m ce] ao co outs (some ⟨b5, o5, none⟩) c5 (x :: us) (some ⟨b6, o6, none⟩) c6 (y :: vs) w5.drew)
            have l5 := hM5.out.s5.capn
            have l6 := hM5.out.s6.capn
            have m5 := hM5.out.s5.capm
            have m6 := hM5.out.s6.capm
            unfold maxLen at m5 m6
            rw [List.length_cons] at l5 l6
            have i5 : (1 : Int) ≤ (us.length : Int) + 1 := by omega
            have i6 : (1 : Int) ≤ (vs.length : Int) + 1 := by omega
            have t5 := Lib.hid hM5.out.s5
            have t6 := Lib.hid hM5.out.s6
            clear d5 d6
            cases t
            · go_wp2
              clear hM5
              by_cases hc : c5 = 1
              · subst hc
                refine wp_region_any (by kernel_rfl) ?_
                change wpAny _ _ _ _ _ _ _ (World.drew _)
                refine wpAny_take (i := 0) (v := ?_) rfl (by kernel_rfl) (by kernel_rfl) (by kernel_rfl) (fun _ _ _ h => h) (Or.inl ⟨by rfl, ?_⟩) ?_
                rotate_left
                · intro w
                  go_simp
                  try with_reducible rfl
                refine wpAny_take (i := 1) (v := ?_) rfl (by kernel_rfl) (by kernel_rfl) (by kernel_rfl) (fun _ _ _ h => h) (Or.inl ⟨by rfl, ?_⟩) ?_
                rotate_left
                · intro w
                  go_simp
                  try with_reducible rfl
                refine wpAny_take (i := 2) (v := ?_) rfl (by kernel_rfl) (by kernel_rfl) (by kernel_rfl) (fun _ _ _ h => h) (Or.inl ⟨by rfl, ?_⟩) ?_
                rotate_left
                · intro w
                  go_simp
                  try with_reducible rfl
                refine wpAny_take (i := 6) (v := ?_) rfl (by kernel_rfl) (by kernel_rfl) (by kernel_rfl) (fun _ _ _ h => h) (Or.inl ⟨by rfl, ?_⟩) ?_
                rotate_left
                · intro w
                  go_simp
                  try with_reducible rfl
                refine wpAny_take (i := 7) (v := ?_) rfl (by kernel_rfl) (by kernel_rfl) (by kernel_rfl) (fun _ _ _ h => h) (Or.inl ⟨by rfl, ?_⟩) ?_
                rotate_left
                · intro w
                  go_simp
                  try with_reducible rfl
                generalize w5.drew = wz at *
                have hiz := hMz.out.inv
                have hoz := hMz.out.own
                have dz := F5.out wz hiz.fz
                refine wpAny_ready (rs := [3]) (by kernel_rfl) (by simp) ?_
                refine AllReady.cons rfl (fun K hK => ?_) AllReady.nil
                go_simp
                refine hK _ _ ?_
                clear hK K
                refine wpAny_ready (rs := [4]) (by kernel_rfl) (by simp) ?_
                refine AllReady.cons rfl (fun K hK => ?_) AllReady.nil
                go_simp
                refine hK _ _ ?_
                clear hK K
                refine wpAny_ready (rs := [5]) (by kernel_rfl) (by simp) ?_
                refine AllReady.cons rfl (fun K hK => ?_) AllReady.nil
                refine step_appF (α := List Int) rfl _ _ 40 rfl slLL (hiz.alloc _) ao co outs rfl (hoz.alloc _) ⟨wz.heap.size, 0, none⟩ 1 [x] [.slice ax lx cx] 1 rfl rfl (RepL.single ⟨ax, cx, by rw [hlx.out], sx⟩) (new_cells wz #[.slice ax lx cx] 26) (by simp only [List.length_cons, List.length_nil]; omega) ?_
                intro a7 c7 w7 hi7 ho7 hg7 hf7
                go_simp
                refine hK _ _ ?_
                clear hK K
                refine wpAny_take (i := 8) (v := ?_) rfl (by kernel_rfl) (by kernel_rfl) (by kernel_rfl) (fun _ _ _ h => h) (Or.inl ⟨by rfl, ?_⟩) ?_
                rotate_left
                · intro w
                  go_simp
                  try with_reducible rfl
                refine wpAny_take (i := 9) (v := ?_) rfl (by kernel_rfl) (by kernel_rfl) (by kernel_rfl) (fun _ _ _ h => h) (Or.inl ⟨by rfl, ?_⟩) ?_
                rotate_left
                · intro w
                  go_simp
                  try with_reducible rfl
                refine wpAny_done (by kernel_rfl) ?_ _
                go_simp
                go_wp2
                go_roundw
                case rel => exact ⟨us, y :: vs, outs ++ [x], some ⟨b5, o5, none⟩, 0, some ⟨b6, o6, none⟩, c6, a7, c7, (by rw [(t5.out.tail0).1]; rfl), rfl, by simp, Lib.hid (hMz.out.take5 ht.out hi7 ho7 hg7 hf7 (t5.out.tail0).2)⟩
                case measure => simp [slLen]
              · have hc2 : ¬ 1 = c5 := by omega
                refine wp_region_any (by kernel_rfl) ?_
                change wpAny _ _ _ _ _ _ _ (World.drew _)
                refine wpAny_take (i := 0) (v := ?_) rfl (by kernel_rfl) (by kernel_rfl) (by kernel_rfl) (fun _ _ _ h => h) (Or.inl ⟨by rfl, ?_⟩) ?_
                rotate_left
                · intro w
                  go_simp
                  try with_reducible rfl
                refine wpAny_take (i := 1) (v := ?_) rfl (by kernel_rfl) (by kernel_rfl) (by kernel_rfl) (fun _ _ _ h => h) (Or.inl ⟨by rfl, ?_⟩) ?_
                rotate_left
                · intro w
                  go_simp
                  try with_reducible rfl
                refine wpAny_take (i := 2) (v := ?_) rfl (by kernel_rfl) (by kernel_rfl) (by kernel_rfl) (fun _ _ _ h => h) (Or.inl ⟨by rfl, ?_⟩) ?_
                rotate_left
                · intro w
                  go_simp
                  try with_reducible rfl
                refine wpAny_take (i := 6) (v := ?_) rfl (by kernel_rfl) (by kernel_rfl) (by kernel_rfl) (fun _ _ _ h => h) (Or.inl ⟨by rfl, ?_⟩) ?_
                rotate_left
                · intro w
                  go_simp
                  try with_reducible rfl
                refine wpAny_take (i := 7) (v := ?_) rfl (by kernel_rfl) (by kernel_rfl) (by kernel_rfl) (fun _ _ _ h => h) (Or.inl ⟨by rfl, ?_⟩) ?_
                rotate_left
                · intro w
                  go_simp
                  try with_reducible rfl
                generalize w5.drew = wz at *
                have hiz := hMz.out.inv
                have hoz := hMz.out.own
                have dz := F5.out wz hiz.fz
                refine wpAny_ready (rs := [3]) (by kernel_rfl) (by simp) ?_
                refine AllReady.cons rfl (fun K hK => ?_) AllReady.nil
                go_simp
                refine hK _ _ ?_
                clear hK K
                refine wpAny_ready (rs := [4]) (by kernel_rfl) (by simp) ?_
                refine AllReady.cons rfl (fun K hK => ?_) AllReady.nil
                go_simp
                refine hK _ _ ?_
                clear hK K
                refine wpAny_ready (rs := [5]) (by kernel_rfl) (by simp) ?_
                refine AllReady.cons rfl (fun K hK => ?_) AllReady.nil
                refine step_appF (α := List Int) rfl _ _ 40 rfl slLL (hiz.alloc _) ao co outs rfl (hoz.alloc _) ⟨wz.heap.size, 0, none⟩ 1 [x] [.slice ax lx cx] 1 rfl rfl (RepL.single ⟨ax, cx, by rw [hlx.out], sx⟩) (new_cells wz #[.slice ax lx cx] 26) (by simp only [List.length_cons, List.length_nil]; omega) ?_
                intro a7 c7 w7 hi7 ho7 hg7 hf7
                go_simp
                refine hK _ _ ?_
                clear hK K
                refine wpAny_take (i := 8) (v := ?_) rfl (by kernel_rfl) (by kernel_rfl) (by kernel_rfl) (fun _ _ _ h => h) (Or.inl ⟨by rfl, ?_⟩) ?_
                rotate_left
                · intro w
                  go_simp
                  try with_reducible rfl
                refine wpAny_take (i := 9) (v := ?_) rfl (by kernel_rfl) (by kernel_rfl) (by kernel_rfl) (fun _ _ _ h => h) (Or.inl ⟨by rfl, ?_⟩) ?_
                rotate_left
                · intro w
                  go_simp
                  try with_reducible rfl
                refine wpAny_done (by kernel_rfl) ?_ _
                go_simp
                go_wp2
                go_roundw
                case rel => exact ⟨us, y :: vs, outs ++ [x], some ⟨b5, o5 + 1, none⟩, c5 - 1, some ⟨b6, o6, none⟩, c6, a7, c7, (by first | rfl | simp), rfl, by simp, Lib.hid (hMz.out.take5 ht.out hi7 ho7 hg7 hf7 (t5.out.tail1 rfl))⟩
                case measure => simp [slLen]
            · go_wp2
              clear hM5
              by_cases hc : c6 = 1
              · subst hc
                refine wp_region_any (by kernel_rfl) ?_
                change wpAny _ _ _ _ _ _ _ (World.drew _)
                refine wpAny_take (i := 0) (v := ?_) rfl (by kernel_rfl) (by kernel_rfl) (by kernel_rfl) (fun _ _ _ h => h) (Or.inl ⟨by rfl, ?_⟩) ?_
                rotate_left
                · intro w
                  go_simp
                  try with_reducible rfl
                refine wpAny_take (i := 1) (v := ?_) rfl (by kernel_rfl) (by kernel_rfl) (by kernel_rfl) (fun _ _ _ h => h) (Or.inl ⟨by rfl, ?_⟩) ?_
                rotate_left
                · intro w
                  go_simp
                  try with_reducible rfl
                refine wpAny_take (i := 2) (v := ?_) rfl (by kernel_rfl) (by kernel_rfl) (by kernel_rfl) (fun _ _ _ h => h) (Or.inl ⟨by rfl, ?_⟩) ?_
                rotate_left
                · intro w
                  go_simp
                  try with_reducible rfl
                refine wpAny_take (i := 6) (v := ?_) rfl (by kernel_rfl) (by kernel_rfl) (by kernel_rfl) (fun _ _ _ h => h) (Or.inl ⟨by rfl, ?_⟩) ?_
                rotate_left
                · intro w
                  go_simp
                  try with_reducible rfl
                refine wpAny_take (i := 7) (v := ?_) rfl (by kernel_rfl) (by kernel_rfl) (by kernel_rfl) (fun _ _ _ h => h) (Or.inl ⟨by rfl, ?_⟩) ?_
                rotate_left
                · intro w
                  go_simp
                  try with_reducible rfl
                generalize w5.drew = wz at *
                have hiz := hMz.out.inv
                have hoz := hMz.out.own
                have dz := F6.out wz hiz.fz
                refine wpAny_ready (rs := [3]) (by kernel_rfl) (by simp) ?_
                refine AllReady.cons rfl (fun K hK => ?_) AllReady.nil
                go_simp
                refine hK _ _ ?_
                clear hK K
                refine wpAny_ready (rs := [4]) (by kernel_rfl) (by simp) ?_
                refine AllReady.cons rfl (fun K hK => ?_) AllReady.nil
                go_simp
                refine hK _ _ ?_
                clear hK K
                refine wpAny_ready (rs := [5]) (by kernel_rfl) (by simp) ?_
                refine AllReady.cons rfl (fun K hK => ?_) AllReady.nil
                refine step_appF (α := List Int) rfl _ _ 40 rfl slLL (hiz.alloc _) ao co outs rfl (hoz.alloc _) ⟨wz.heap.size, 0, none⟩ 1 [y] [.slice ay ly cy] 1 rfl rfl (RepL.single ⟨ay, cy, by rw [hly.out], sy⟩) (new_cells wz #[.slice ay ly cy] 26) (by simp only [List.length_cons, List.length_nil]; omega) ?_
                intro a7 c7 w7 hi7 ho7 hg7 hf7
                go_simp
                refine hK _ _ ?_
                clear hK K
                refine wpAny_take (i := 8) (v := ?_) rfl (by kernel_rfl) (by kernel_rfl) (by kernel_rfl) (fun _ _ _ h => h) (Or.inl ⟨by rfl, ?_⟩) ?_
                rotate_left
                · intro w
                  go_simp
                  try with_reducible rfl
                refine wpAny_take (i := 9) (v := ?_) rfl (by kernel_rfl) (by kernel_rfl) (by kernel_rfl) (fun _ _ _ h => h) (Or.inl ⟨by rfl, ?_⟩) ?_
                rotate_left
                · intro w
                  go_simp
                  try with_reducible rfl
                refine wpAny_done (by kernel_rfl) ?_ _
                go_simp
                go_wp2
                go_roundw
                case rel => exact ⟨x :: us, vs, outs ++ [y], some ⟨b5, o5, none⟩, c5, some ⟨b6, o6, none⟩, 0, a7, c7, rfl, (by rw [(t6.out.tail0).1]; rfl), by simp, Lib.hid (hMz.out.take6 ht.out hi7 ho7 hg7 hf7 (t6.out.tail0).2)⟩
                case measure => simp [slLen]
              · have hc2 : ¬ 1 = c6 := by omega
                refine wp_region_any (by kernel_rfl) ?_
                change wpAny _ _ _ _ _ _ _ (World.drew _)
                refine wpAny_take (i := 0) (v := ?_) rfl (by kernel_rfl) (by kernel_rfl) (by kernel_rfl) (fun _ _ _ h => h) (Or.inl ⟨by rfl, ?_⟩) ?_
                rotate_left
                · intro w
                  go_simp
                  try with_reducible rfl
                refine wpAny_take (i := 1) (v := ?_) rfl (by kernel_rfl) (by kernel_rfl) (by kernel_rfl) (fun _ _ _ h => h) (Or.inl ⟨by rfl, ?_⟩) ?_
                rotate_left
                · intro w
                  go_simp
                  try with_reducible rfl
                refine wpAny_take (i := 2) (v := ?_) rfl (by kernel_rfl) (by kernel_rfl) (by kernel_rfl) (fun _ _ _ h => h) (Or.inl ⟨by rfl, ?_⟩) ?_
                rotate_left
                · intro w
                  go_simp
                  try with_reducible rfl
                refine wpAny_take (i := 6) (v := ?_) rfl (by kernel_rfl) (by kernel_rfl) (by kernel_rfl) (fun _ _ _ h => h) (Or.inl ⟨by rfl, ?_⟩) ?_
                rotate_left
                · intro w
                  go_simp
                  try with_reducible rfl
                refine wpAny_take (i := 7) (v := ?_) rfl (by kernel_rfl) (by kernel_rfl) (by kernel_rfl) (fun _ _ _ h => h) (Or.inl ⟨by rfl, ?_⟩) ?_
                rotate_left
                · intro w
                  go_simp
                  try with_reducible rfl
                generalize w5.drew = wz at *
                have hiz := hMz.out.inv
                have hoz := hMz.out.own
                have dz := F6.out wz hiz.fz
                refine wpAny_ready (rs := [3]) (by kernel_rfl) (by simp) ?_
                refine AllReady.cons rfl (fun K hK => ?_) AllReady.nil
                go_simp
                refine hK _ _ ?_
                clear hK K
                refine wpAny_ready (rs := [4]) (by kernel_rfl) (by simp) ?_
                refine AllReady.cons rfl (fun K hK => ?_) AllReady.nil
                go_simp
                refine hK _ _ ?_
                clear hK K
                refine wpAny_ready (rs := [5]) (by kernel_rfl) (by simp) ?_
                refine AllReady.cons rfl (fun K hK => ?_) AllReady.nil
                refine step_appF (α := List Int) rfl _ _ 40 rfl slLL (hiz.alloc _) ao co outs rfl (hoz.alloc _) ⟨wz.heap.size, 0, none⟩ 1 [y] [.slice ay ly cy] 1 rfl rfl (RepL.single ⟨ay, cy, by rw [hly.out], sy⟩) (new_cells wz #[.slice ay ly cy] 26) (by simp only [List.length_cons, List.length_nil]; omega) ?_
                intro a7 c7 w7 hi7 ho7 hg7 hf7
                go_simp
                refine hK _ _ ?_
                clear hK K
                refine wpAny_take (i := 8) (v := ?_) rfl (by kernel_rfl) (by kernel_rfl) (by kernel_rfl) (fun _ _ _ h => h) (Or.inl ⟨by rfl, ?_⟩) ?_
                rotate_left
                · intro w
                  go_simp
                  try with_reducible rfl
                refine wpAny_take (i := 9) (v := ?_) rfl (by kernel_rfl) (by kernel_rfl) (by kernel_rfl) (fun _ _ _ h => h) (Or.inl ⟨by rfl, ?_⟩) ?_
                rotate_left
                · intro w
                  go_simp
                  try with_reducible rfl
                refine wpAny_done (by kernel_rfl) ?_ _
                go_simp
                go_wp2
                go_roundw
                case rel => exact ⟨x :: us, vs, outs ++ [y], some ⟨b5, o5, none⟩, c5, some ⟨b6, o6 + 1, none⟩, c6 - 1, a7, c7, rfl, (by first | rfl | simp), by simp, Lib.hid (hMz.out.take6 ht.out hi7 ho7 hg7 hf7 (t6.out.tail1 rfl))⟩
                case measure => simp [slLen]
end Go.Proofs.YtambgcijceecpaaDoor
