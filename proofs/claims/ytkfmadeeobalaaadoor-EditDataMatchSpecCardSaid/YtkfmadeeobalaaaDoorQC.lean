/- The walk of the reference's sorted. The walk of the reference's sets. The first of the sorted sets that is enough is the lightest; the walks of the reference's least and Least. Conditions: the library's table of blanks reads as it was laid. Which edits are needed, and which clash: the plain law. Conditions: none beyond what the claim form gives. -/
import Derived.Test.YtkfmadeeobalaaaDoorQB
import Derived.Deep.DeepCutAuto
import Derived.Test.YtkfmadeeobalaaaDoorEB
namespace Go.Proofs.YtkfmadeeobalaaaDoor
open Go.RowKit
set_option linter.unusedVariables false
theorem SlV.drop {α : Type} [Rep α] {φ : Phi} {b off cap : Nat} {xs : List α} (h : SlV φ (some ⟨b, off, none⟩) cap xs) {k : Nat} (hk : k ≤ xs.length) : SlV φ (some ⟨b, off + k * Rep.size α, none⟩) (cap - k) (xs.drop k) := by
  have h1 := h.capn; have h2 := h.capm
  refine ⟨by rw [List.length_drop]; omega, by omega, (fun e => by cases e), fun hne => ?_⟩
  obtain ⟨b', off', ha, hc⟩ := h.at_ (by intro e; subst e; simp at hne)
  cases ha
  refine ⟨b, off + k * Rep.size α, rfl, fun j hj => ?_⟩
  rw [List.length_drop] at hj
  obtain ⟨cs, h3, h4⟩ := hc (k + j) (by omega)
  refine ⟨cs, by rw [List.getElem_drop]; exact h3, fun i hi => ?_⟩
  rw [← h4 i hi]
  congr 2
  rw [Nat.add_mul]; omega
/-- Two readings of one heap. -/
def Phi.join (φ ψ : Phi) : Phi := fun b => (φ b).or (ψ b)
theorem Phi.le_join1 (φ ψ : Phi) : φ.le (φ.join ψ) := fun b o h => by unfold Phi.join; rw [h]; rfl
theorem Phi.le_join2 {φ ψ : Phi} {w : World} (h : Fz φ w) (k : Fz ψ w) : ψ.le (φ.join ψ) := fun b o hb => by
  unfold Phi.join
  cases hφ : φ b with
  | none => exact hb
  | some o' =>
    have h1 := h b o' hφ
    have h2 := k b o hb
    rw [h1] at h2
    exact h2
theorem Fz.join {φ ψ : Phi} {w : World} (h : Fz φ w) (k : Fz ψ w) : Fz (φ.join ψ) w := fun b o hb => by
  unfold Phi.join at hb
  cases hφ : φ b with
  | none => rw [hφ] at hb; exact k b o hb
  | some o' => rw [hφ] at hb; cases hb; exact h b _ hφ
/-- Sorted by weight, size and order. -/
def Sor (fs : List Fld) (l : List (List Int)) : Prop := l.Pairwise (fun x y => ahead fs y x = false)
def SortPost (fs : List Fld) (gs : List (List Int)) (φ : Phi) (w : World) (e : Ending) (w' : World) : Prop :=
  ∃ rs φ' a cap, e = .returned (.slice a rs.length cap) ∧ Inv w.heap.size w φ φ' w' ∧ SlV φ' a cap rs ∧ rs.Perm gs ∧ Sor fs rs
theorem Sor.one {fs : List Fld} {gs : List (List Int)} (h : gs.length < 2) : Sor fs gs := by
  match gs, h with
  | [], _ => exact List.Pairwise.nil
  | [x], _ => exact List.pairwise_singleton _ _
  | x :: y :: l, h => exact absurd h (by simp)
structure SPair (fs : List Fld) (gs : List (List Int)) (h : Nat) (w : World) (φ φ' : Phi) (bx : Nat) (cs : Array Value) (a5 : Option Addr) (c5 : Nat) (r5 : List (List Int)) (a6 : Option Addr) (c6 : Nat) (r6 : List (List Int)) (wx : World) : Prop where
  inv : Inv bx w φ φ' wx
  k : Blk wx bx cs 25
  s5 : SlV φ' a5 c5 r5
  s6 : SlV φ' a6 c6 r6
  p5 : r5.Perm (gs.take h)
  p6 : r6.Perm (gs.drop h)
  o5 : Sor fs r5
  o6 : Sor fs r6
theorem slLL : SliceTy Tryd.prog 26 32 (.slice none 0 0) (Rep.size (List Int)) 24 := ⟨Tryd.underlying26, by kernel_rfl, rfl, by decide, by decide⟩
def slLen : Value → Nat
  | .slice _ k _ => k
  | _ => 0
theorem SlV.tail1 {α : Type} [Rep α] {φ : Phi} {b off cap : Nat} {x : α} {xs : List α} (h1 : Rep.size α = 1) (h : SlV φ (some ⟨b, off, none⟩) cap (x :: xs)) : SlV φ (some ⟨b, off + 1, none⟩) (cap - 1) xs := by
  have := h.drop (k := 1) (by simp)
  simpa [h1] using this
theorem SlV.tail0 {α : Type} [Rep α] {φ : Phi} {b off : Nat} {x : α} {xs : List α} (h : SlV φ (some ⟨b, off, none⟩) 1 (x :: xs)) : xs = [] ∧ SlV φ (some ⟨b, off, none⟩) 0 xs := by
  have h1 := h.capn
  have h2 : xs = [] := List.eq_nil_of_length_eq_zero (by rw [List.length_cons] at h1; omega)
  subst h2
  exact ⟨rfl, by simp, by simp [maxLen], (fun e => by cases e), fun e => absurd rfl e⟩
/-- The state of a merge: what is out, what is left of both. -/
structure MgSt (fs : List Fld) (n : Nat) (gs : List (List Int)) (w : World) (φ φ1 : Phi) (bx : Nat) (cs : Array Value) (ao : Option Addr) (co : Nat) (outs : List (List Int)) (a5 : Option Addr) (c5 : Nat) (us : List (List Int)) (a6 : Option Addr) (c6 : Nat) (vs : List (List Int)) (wr : World) : Prop where
  inv : Inv bx w φ φ1 wr
  own : Own bx φ1 wr 32 ao co outs
  k : Blk wr bx cs 25
  far : ∀ x, ao = some x → x.block ≠ bx
  s5 : SlV φ1 a5 c5 us
  s6 : SlV φ1 a6 c6 vs
  perm : (outs ++ (us ++ vs)).Perm gs
  oo : Sor fs outs
  o5 : Sor fs us
  o6 : Sor fs vs
  le : ∀ o ∈ outs, ∀ x ∈ us ++ vs, ahead fs x o = false
section
variable {fs : List Fld} {n : Nat} {gs : List (List Int)} {w : World} {φ φ1 : Phi} {bx : Nat} {cs : Array Value} {ao a' : Option Addr} {co c' : Nat} {outs : List (List Int)} {a5 : Option Addr} {c5 : Nat} {us : List (List Int)} {a6 : Option Addr} {c6 : Nat} {vs : List (List Int)} {wr w' : World} {x y : List Int}
theorem MgSt.callB (h : MgSt fs n gs w φ φ1 bx cs ao co outs a5 c5 us a6 c6 vs wr) (hb : Below wr.heap.size wr w') : MgSt fs n gs w φ φ1 bx cs ao co outs a5 c5 us a6 c6 vs w' :=
  ⟨h.inv.callB hb, h.own.callB hb, h.k.callB hb, h.far, h.s5, h.s6, h.perm, h.oo, h.o5, h.o6, h.le⟩
theorem far_of {w wr w' : World} {bx : Nat} {cs : Array Value} {T : TypeId} {ao a' : Option Addr} {o : Obj} (hk : Blk wr bx cs T) (far : ∀ x, ao = some x → x.block ≠ bx) (hg : (wr.alloc o).grownBy w' (ao.map (·.block))) (hf : ∀ x, a' = some x → ao.map (·.block) = some x.block ∨ (wr.alloc o).heap.size ≤ x.block) : Blk w' bx cs T ∧ ∀ x, a' = some x → x.block ≠ bx := by
  have k := hk.alloc o
  refine ⟨(hg.block bx k.lt (fun e => ?_)).trans k, fun x hx => ?_⟩
  · cases ao with
    | none => cases e
    | some z => exact far z rfl (by simpa using e.symm)
  · rcases hf x hx with hh | hh
    · cases ao with
      | none => cases hh
      | some z => have := far z rfl; simp at hh; omega
    · have := k.lt; omega
theorem sor_snoc {outs : List (List Int)} {y : List Int} (h : Sor fs outs) (hy : ∀ o ∈ outs, ahead fs y o = false) : Sor fs (outs ++ [y]) := by
  unfold Sor
  rw [List.pairwise_append]
  exact ⟨h, List.pairwise_singleton _ _, fun a ha b hb => by rw [List.mem_singleton] at hb; subst hb; exact hy a ha⟩
/-- The second one's head comes ahead. -/
theorem MgSt.take6 (h : MgSt fs n gs w φ φ1 bx cs ao co outs a5 c5 (x :: us) a6 c6 (y :: vs) wr) (hxy : ahead fs y x = true) {o : Obj} (hi : Inv bx w φ φ1 w') (ho : Own bx φ1 w' 32 a' c' (outs ++ [y])) (hg : (wr.alloc o).grownBy w' (ao.map (·.block))) (hf : ∀ x, a' = some x → ao.map (·.block) = some x.block ∨ (wr.alloc o).heap.size ≤ x.block) {a7 : Option Addr} {c7 : Nat} (s7 : SlV φ1 a7 c7 vs) :
    MgSt fs n gs w φ φ1 bx cs a' c' (outs ++ [y]) a5 c5 (x :: us) a7 c7 vs w' := by
  obtain ⟨k1, k2⟩ := far_of (w := w) h.k h.far hg hf
  have o6 := h.o6
  unfold Sor at o6
  rw [List.pairwise_cons] at o6
  have o5 := h.o5
  unfold Sor at o5
  rw [List.pairwise_cons] at o5
  refine ⟨hi, ho, k1, k2, h.s5, s7, ?_, sor_snoc h.oo (fun o ho => h.le o ho y (by simp)), h.o5, o6.2, fun o ho z hz => ?_⟩
  · refine List.Perm.trans ?_ h.perm
    rw [List.append_assoc]
    refine List.Perm.append_left _ ?_
    exact (List.perm_middle (a := y) (l₁ := x :: us) (l₂ := vs)).symm
  · rcases List.mem_append.1 ho with ho | ho
    · exact h.le o ho z (by rcases List.mem_append.1 hz with hz | hz; exact List.mem_append.2 (.inl hz); exact List.mem_append.2 (.inr (List.mem_cons_of_mem _ hz)))
    · obtain rfl := List.mem_singleton.1 ho
      rcases List.mem_append.1 hz with hz | hz
      · cases hq : ahead fs z o with
        | false => rfl
        | true =>
          have h1 := ahead_trans hq hxy
          rcases List.mem_cons.1 hz with rfl | hz
          · rw [ahead_irrefl] at h1; cases h1
          · rw [o5.1 z hz] at h1; cases h1
      · exact o6.1 z hz
theorem MgSt.take5 (h : MgSt fs n gs w φ φ1 bx cs ao co outs a5 c5 (x :: us) a6 c6 (y :: vs) wr) (hxy : ahead fs y x = false) {o : Obj} (hi : Inv bx w φ φ1 w') (ho : Own bx φ1 w' 32 a' c' (outs ++ [x])) (hg : (wr.alloc o).grownBy w' (ao.map (·.block))) (hf : ∀ x, a' = some x → ao.map (·.block) = some x.block ∨ (wr.alloc o).heap.size ≤ x.block) {a7 : Option Addr} {c7 : Nat} (s7 : SlV φ1 a7 c7 us) :
    MgSt fs n gs w φ φ1 bx cs a' c' (outs ++ [x]) a7 c7 us a6 c6 (y :: vs) w' := by
  obtain ⟨k1, k2⟩ := far_of (w := w) h.k h.far hg hf
  have o6 := h.o6
  unfold Sor at o6
  rw [List.pairwise_cons] at o6
  have o5 := h.o5
  unfold Sor at o5
  rw [List.pairwise_cons] at o5
  refine ⟨hi, ho, k1, k2, s7, h.s6, ?_, sor_snoc h.oo (fun o ho => h.le o ho x (by simp)), o5.2, h.o6, fun o ho z hz => ?_⟩
  · refine List.Perm.trans ?_ h.perm
    rw [List.append_assoc]
    exact List.Perm.refl _
  · rcases List.mem_append.1 ho with ho | ho
    · exact h.le o ho z (by rcases List.mem_append.1 hz with hz | hz; exact List.mem_append.2 (.inl (List.mem_cons_of_mem _ hz)); exact List.mem_append.2 (.inr hz))
    · obtain rfl := List.mem_singleton.1 ho
      rcases List.mem_append.1 hz with hz | hz
      · exact o5.1 z hz
      · rcases List.mem_cons.1 hz with rfl | hz
        · exact hxy
        · cases hq : ahead fs z o with
          | false => rfl
          | true =>
            -- z ahead of x, y not ahead of x: then z ahead of y or equal
            have h1 := o6.1 z hz
            cases h2 : ahead fs o y with
            | true => rw [ahead_trans hq h2] at h1; cases h1
            | false =>
              have := ahead_total hxy h2
              subst this
              rw [hq] at h1; cases h1
theorem MgSt.fin (h : MgSt fs n gs w φ φ1 bx cs ao co outs a5 c5 us a6 c6 vs wr) (h0 : us = [] ∨ vs = []) : (outs ++ us ++ vs).Perm gs ∧ Sor fs (outs ++ us ++ vs) := by
  refine ⟨by rw [List.append_assoc]; exact h.perm, ?_⟩
  have hs : Sor fs (us ++ vs) := by
    rcases h0 with rfl | rfl
    · exact h.o6
    · rw [List.append_nil]; exact h.o5
  rw [List.append_assoc]
  unfold Sor at *
  rw [List.pairwise_append]
  exact ⟨h.oo, hs, h.le⟩
end
set_option maxRecDepth 100000 in
set_option maxHeartbeats 2000000 in
theorem sorted_any
  (n : Nat) (a : Option Addr) (cap : Nat) (fs : List Fld) (m : Nat) (ae : Option Addr) (ce : Nat) (es : List Edt) (ok : Hid (PlOk fs es n m))
    : ∀ (N : Nat), N ≤ 4096 → ∀ (gs : List (List Int)), gs.length ≤ N → ∀ (k : Nat), Hid (gs.length = k) → ∀ (w : World) (φ : Phi) (hφ : Fz φ w) (s : SlV φ a cap fs) (se : SlV φ ae ce es) (a1 : Option Addr) (c1 : Nat) (sg : SlV φ a1 c1 gs) (hg : Hid (∀ l ∈ gs, SetG n l)),
    Calls Tryd.prog 147 #[.agg #[.slice a n cap, .slice ae m ce], .slice a1 k c1] w (SortPost fs gs φ w) := by
  intro N
  induction N with
  | zero =>
    intro hN gs hgl k hk w φ hφ s se a1 c1 sg hg
    have hS0 := Lib.hid ((Inv.start hφ).alloc (.cells #[.slice a n cap, .slice ae m ce] 25))
    have hk2 : (k : Int) < 2 := by have := hk.out; omega
    have hso : Hid (Sor fs gs) := Lib.hid (Sor.one (by omega))
    go_enter Tryd.func147, Tryd.ntmps147
    go_wp2
    go_ret
    exact ⟨gs, φ, a1, c1, by rw [hk.out]; rfl, hS0.out, sg, List.Perm.refl _, hso.out⟩
  | succ N ih =>
    intro hN gs hgl k hk w φ hφ s se a1 c1 sg hg
    have hS0 := Lib.hid ((Inv.start hφ).alloc (.cells #[.slice a n cap, .slice ae m ce] 25))
    have hB0 := Lib.hid (BxSt.new hφ #[.slice a n cap, .slice ae m ce] 25)
    by_cases hk2 : k < 2
    · have hso : Hid (Sor fs gs) := Lib.hid (Sor.one (by rw [hk.out]; exact hk2))
      go_enter Tryd.func147, Tryd.ntmps147
      go_wp2
      go_ret
      exact ⟨gs, φ, a1, c1, by rw [hk.out]; rfl, hS0.out, sg, List.Perm.refl _, hso.out⟩
    have IH := Lib.hid (ih (by omega))
    clear ih
    have hkN : k ≤ 4096 := by have := hk.out; omega
    obtain ⟨b, off, rfl, _⟩ := sg.lists hk (k := 0) (by omega)
    obtain ⟨h, hh⟩ : ∃ h, h = k / 2 := ⟨_, rfl⟩
    have hh1 : 1 ≤ h ∧ h < k := by omega
    have hdiv : (k : Int) / 2 = (h : Int) := by rw [hh]; simp
    have hdiv2 : (k : Int).tdiv 2 = (h : Int) := by rw [Int.tdiv_eq_ediv_of_nonneg (by omega)]; exact hdiv
    have hcp := sg.capn
    have hcm := sg.capm
    rw [hk.out] at hcp
    unfold maxLen at hcm
    have st := sg.take h
    have sd := sg.drop (k := h) (by rw [hk.out]; omega)
    have sd' : SlV φ (some ⟨b, off + h, none⟩) (c1 - h) (gs.drop h) := by simpa [Rep.size] using sd
    have hlt1 : Hid ((gs.take h).length = h) := Lib.hid (by rw [List.length_take, hk.out]; omega)
    have hld1 : Hid ((gs.drop h).length = k - h) := Lib.hid (by rw [List.length_drop, hk.out])
    have hgt : Hid (∀ l ∈ gs.take h, SetG n l) := Lib.hid (fun l hl => hg.out l (List.mem_of_mem_take hl))
    have hgd : Hid (∀ l ∈ gs.drop h, SetG n l) := Lib.hid (fun l hl => hg.out l (List.mem_of_mem_drop hl))
    have g1 := Lib.hid (IH.out (gs.take h) (by rw [hlt1.out]; have := hk.out; omega) h hlt1)
    have g2 := Lib.hid (IH.out (gs.drop h) (by rw [hld1.out]; have := hk.out; omega) (k - h) hld1)
    have HH := Lib.hid hh
    have hhc : h ≤ c1 := by omega
    have hhk : h ≤ k := by omega
    have hhn : ¬ c1 = h := by omega
    have hhn2 : ¬ h = c1 := by omega
    clear hh IH
    go_enter Tryd.func147, Tryd.ntmps147
    go_wp2
    generalize w.alloc (.cells #[.slice a n cap, .slice ae m ce] 25) = W at *
    generalize hbx : w.heap.size = bx at *
    replace hbx := Lib.hid hbx
    have p0 : W.cell? ⟨bx, 0, none⟩ = some (.slice a n cap) := hB0.out.k.cell 0
    have p1 : W.cell? ⟨bx, 1, none⟩ = some (.slice ae m ce) := hB0.out.k.cell 1
    go_cut [5, 6] (fun s5 s6 wx => ∃ φ' a5 c5 r5 a6 c6 r6, s5 = .slice a5 r5.length c5 ∧ s6 = .slice a6 r6.length c6 ∧ Hid (SPair fs gs h w φ φ' bx #[.slice a n cap, .slice ae m ce] a5 c5 r5 a6 c6 r6 wx))
    case first =>
      have hwr : IntKind.i64.wrap (h : Int) = (h : Int) := IntWalk.i64_in _ (by omega)
      refine wp_region_any (by kernel_rfl) ?_
      change wpAny _ _ _ _ _ _ _ (World.drew _)
      refine wpAny_take (i := 1) (v := ?_) rfl (by kernel_rfl) (by kernel_rfl) (by kernel_rfl) (fun _ _ _ h => h) (Or.inl ⟨by rfl, ?_⟩) ?_
      rotate_left
      · intro w
        go_simp
        try with_reducible rfl
      refine wpAny_take (i := 2) (v := ?_) rfl (by kernel_rfl) (by kernel_rfl) (by kernel_rfl) (fun _ _ _ h => h) (Or.inl ⟨by rfl, ?_⟩) ?_
      rotate_left
      · intro w
        go_simp
        try with_reducible rfl
      refine wpAny_take (i := 3) (v := ?_) rfl (by kernel_rfl) (by kernel_rfl) (by kernel_rfl) (fun _ _ _ h => h) (Or.inl ⟨by rfl, ?_⟩) ?_
      rotate_left
      · intro w
        go_simp
        try with_reducible rfl
      refine wpAny_take (i := 4) (v := ?_) rfl (by kernel_rfl) (by kernel_rfl) (by kernel_rfl) (fun _ _ _ h => h) (Or.inl ⟨by rfl, ?_⟩) ?_
      rotate_left
      · intro w
        go_simp
        try with_reducible rfl
      refine wpAny_take (i := 5) (v := ?_) rfl (by kernel_rfl) (by kernel_rfl) (by kernel_rfl) (fun _ _ _ h => h) (Or.inl ⟨by rfl, ?_⟩) ?_
      rotate_left
      · intro w
        go_simp
        try with_reducible rfl
      refine wpAny_take (i := 8) (v := ?_) rfl (by kernel_rfl) (by kernel_rfl) (by kernel_rfl) (fun _ _ _ h => h) (Or.inl ⟨by rfl, ?_⟩) ?_
      rotate_left
      · intro w
        go_simp
        try with_reducible rfl
      refine wpAny_take (i := 9) (v := ?_) rfl (by kernel_rfl) (by kernel_rfl) (by kernel_rfl) (fun _ _ _ h => h) (Or.inl ⟨by rfl, ?_⟩) ?_
      rotate_left
      · intro w
        go_simp
        try with_reducible rfl
      refine wpAny_take (i := 10) (v := ?_) rfl (by kernel_rfl) (by kernel_rfl) (by kernel_rfl) (fun _ _ _ h => h) (Or.inl ⟨by rfl, ?_⟩) ?_
      rotate_left
      · intro w
        go_simp
        try with_reducible rfl
      refine wpAny_take (i := 11) (v := ?_) rfl (by kernel_rfl) (by kernel_rfl) (by kernel_rfl) (fun _ _ _ h => h) (Or.inl ⟨by rfl, ?_⟩) ?_
      rotate_left
      · intro w
        go_simp
        try with_reducible rfl
      refine wpAny_take (i := 12) (v := ?_) rfl (by kernel_rfl) (by kernel_rfl) (by kernel_rfl) (fun _ _ _ h => h) (Or.inl ⟨by rfl, ?_⟩) ?_
      rotate_left
      · intro w
        go_simp
        try with_reducible rfl
      have hI1 := Lib.hid hS0.out.drew
      have hBd := Lib.hid (hB0.out.callB ((Below.refl _ _).drew) : BxSt w φ bx #[.slice a n cap, .slice ae m ce] 25 W.drew)
      refine wpAny_ready (rs := [0, 7]) (by kernel_rfl) (by simp) ?_
      refine AllReady.cons rfl (fun K hK => ?_) (AllReady.cons rfl (fun K hK => ?_) AllReady.nil)
      · go_simp
        refine hK _ _ ?_
        clear hK K
        refine wpAny_ready (rs := [6, 7]) (by kernel_rfl) (by simp) ?_
        refine AllReady.cons rfl (fun K hK => ?_) (AllReady.cons rfl (fun K hK => ?_) AllReady.nil)
        · go_simp
          go_wp2_with (go_at_call 147; refine (g1.out _ φ hI1.out.fz s se (some ⟨b, off, none⟩) c1 st hgt).mono ?_; rintro e w5 ⟨r5, φ5, a5, c5, rfl, hi5, s5, p5, o5⟩; have hS5 := Lib.hid (hBd.out.callB hi5.bel); have hI5 := Lib.hid (hI1.out.call hi5); have p50 : w5.cell? ⟨bx, 0, none⟩ = some (.slice a n cap) := hS5.out.k.cell 0; have p51 : w5.cell? ⟨bx, 1, none⟩ = some (.slice ae m ce) := hS5.out.k.cell 1)
          refine wpAny_ready (rs := [7]) (by kernel_rfl) (by simp) ?_
          refine AllReady.cons rfl (fun K hK => ?_) AllReady.nil
          go_simp
          refine hK _ _ ?_
          clear hK K
          refine wpAny_ready (rs := [13]) (by kernel_rfl) (by simp) ?_
          refine AllReady.cons rfl (fun K hK => ?_) AllReady.nil
          go_simp
          go_wp2_with (go_at_call 147; refine (g2.out _ φ5 hI5.out.fz (s.mono hI5.out.le) (se.mono hI5.out.le) (some ⟨b, off + h, none⟩) (c1 - h) (sd'.mono hI5.out.le) hgd).mono ?_; rintro e w6 ⟨r6, φ6, a6, c6, rfl, hi6, s6, p6, o6⟩; have hI6 := Lib.hid (hI5.out.call hi6); have hB6 := Lib.hid (hS5.out.callB hi6.bel))
          refine wpAny_take (i := 14) (v := ?_) rfl (by kernel_rfl) (by kernel_rfl) (by kernel_rfl) (fun _ _ _ h => h) (Or.inl ⟨by rfl, ?_⟩) ?_
          rotate_left
          · intro w
            go_simp
            try with_reducible rfl
          refine wpAny_take (i := 15) (v := ?_) rfl (by kernel_rfl) (by kernel_rfl) (by kernel_rfl) (fun _ _ _ h => h) (Or.inl ⟨by rfl, ?_⟩) ?_
          rotate_left
          · intro w
            go_simp
            try with_reducible rfl
          refine wpAny_done (by kernel_rfl) ?_ _
          go_wp2_with fail
          go_meet
          exact ⟨φ6, a5, c5, r5, a6, c6, r6, rfl, rfl, Lib.hid ⟨hI6.out, hB6.out.k, s5.mono hi6.le, s6, p5, p6, o5, o6⟩⟩
        · go_simp
          refine hK _ _ ?_
          clear hK K
          refine wpAny_ready (rs := [6]) (by kernel_rfl) (by simp) ?_
          refine AllReady.cons rfl (fun K hK => ?_) AllReady.nil
          go_simp
          go_wp2_with (go_at_call 147; refine (g1.out _ φ hI1.out.fz s se (some ⟨b, off, none⟩) c1 st hgt).mono ?_; rintro e w5 ⟨r5, φ5, a5, c5, rfl, hi5, s5, p5, o5⟩; have hS5 := Lib.hid (hBd.out.callB hi5.bel); have hI5 := Lib.hid (hI1.out.call hi5); have p50 : w5.cell? ⟨bx, 0, none⟩ = some (.slice a n cap) := hS5.out.k.cell 0; have p51 : w5.cell? ⟨bx, 1, none⟩ = some (.slice ae m ce) := hS5.out.k.cell 1)
          refine wpAny_ready (rs := [13]) (by kernel_rfl) (by simp) ?_
          refine AllReady.cons rfl (fun K hK => ?_) AllReady.nil
          go_simp
          go_wp2_with (go_at_call 147; refine (g2.out _ φ5 hI5.out.fz (s.mono hI5.out.le) (se.mono hI5.out.le) (some ⟨b, off + h, none⟩) (c1 - h) (sd'.mono hI5.out.le) hgd).mono ?_; rintro e w6 ⟨r6, φ6, a6, c6, rfl, hi6, s6, p6, o6⟩; have hI6 := Lib.hid (hI5.out.call hi6); have hB6 := Lib.hid (hS5.out.callB hi6.bel))
          refine wpAny_take (i := 14) (v := ?_) rfl (by kernel_rfl) (by kernel_rfl) (by kernel_rfl) (fun _ _ _ h => h) (Or.inl ⟨by rfl, ?_⟩) ?_
          rotate_left
          · intro w
            go_simp
            try with_reducible rfl
          refine wpAny_take (i := 15) (v := ?_) rfl (by kernel_rfl) (by kernel_rfl) (by kernel_rfl) (fun _ _ _ h => h) (Or.inl ⟨by rfl, ?_⟩) ?_
          rotate_left
          · intro w
            go_simp
            try with_reducible rfl
          refine wpAny_done (by kernel_rfl) ?_ _
          go_wp2_with fail
          go_meet
          exact ⟨φ6, a5, c5, r5, a6, c6, r6, rfl, rfl, Lib.hid ⟨hI6.out, hB6.out.k, s5.mono hi6.le, s6, p5, p6, o5, o6⟩⟩
      · go_simp
        refine hK _ _ ?_
        clear hK K
        refine wpAny_ready (rs := [0]) (by kernel_rfl) (by simp) ?_
        refine AllReady.cons rfl (fun K hK => ?_) AllReady.nil
        go_simp
        refine hK _ _ ?_
        clear hK K
        refine wpAny_ready (rs := [6]) (by kernel_rfl) (by simp) ?_
        refine AllReady.cons rfl (fun K hK => ?_) AllReady.nil
        go_simp
        go_wp2_with (go_at_call 147; refine (g1.out _ φ hI1.out.fz s se (some ⟨b, off, none⟩) c1 st hgt).mono ?_; rintro e w5 ⟨r5, φ5, a5, c5, rfl, hi5, s5, p5, o5⟩; have hS5 := Lib.hid (hBd.out.callB hi5.bel); have hI5 := Lib.hid (hI1.out.call hi5); have p50 : w5.cell? ⟨bx, 0, none⟩ = some (.slice a n cap) := hS5.out.k.cell 0; have p51 : w5.cell? ⟨bx, 1, none⟩ = some (.slice ae m ce) := hS5.out.k.cell 1)
        refine wpAny_ready (rs := [13]) (by kernel_rfl) (by simp) ?_
        refine AllReady.cons rfl (fun K hK => ?_) AllReady.nil
        go_simp
        go_wp2_with (go_at_call 147; refine (g2.out _ φ5 hI5.out.fz (s.mono hI5.out.le) (se.mono hI5.out.le) (some ⟨b, off + h, none⟩) (c1 - h) (sd'.mono hI5.out.le) hgd).mono ?_; rintro e w6 ⟨r6, φ6, a6, c6, rfl, hi6, s6, p6, o6⟩; have hI6 := Lib.hid (hI5.out.call hi6); have hB6 := Lib.hid (hS5.out.callB hi6.bel))
        refine wpAny_take (i := 14) (v := ?_) rfl (by kernel_rfl) (by kernel_rfl) (by kernel_rfl) (fun _ _ _ h => h) (Or.inl ⟨by rfl, ?_⟩) ?_
        rotate_left
        · intro w
          go_simp
          try with_reducible rfl
        refine wpAny_take (i := 15) (v := ?_) rfl (by kernel_rfl) (by kernel_rfl) (by kernel_rfl) (fun _ _ _ h => h) (Or.inl ⟨by rfl, ?_⟩) ?_
        rotate_left
        · intro w
          go_simp
          try with_reducible rfl
        refine wpAny_done (by kernel_rfl) ?_ _
        go_wp2_with fail
        go_meet
        exact ⟨φ6, a5, c5, r5, a6, c6, r6, rfl, rfl, Lib.hid ⟨hI6.out, hB6.out.k, s5.mono hi6.le, s6, p5, p6, o5, o6⟩⟩
    case rest =>
      obtain ⟨φ1, a5, c5, r5, a6, c6, r6, rfl, rfl, hP⟩ := hcut
      have hM : Hid (MgSt fs n gs w φ φ1 bx #[.slice a n cap, .slice ae m ce] none 0 [] a5 c5 r5 a6 c6 r6 wc) := Lib.hid ⟨hP.out.inv, Own.nil _ _ _ _, hP.out.k, (fun _ h => by cases h), hP.out.s5, hP.out.s6, by
        have := hP.out.p5.append hP.out.p6
        rw [List.take_append_drop] at this
        exact this, List.Pairwise.nil, hP.out.o5, hP.out.o6, fun o ho => by simp at ho⟩
      clear hP g1 g2 p0 p1 hB0 hS0 st sd sd' hgt hgd hlt1 hld1
      go_wp2
      go_loopw [5, 6, 7] (fun va vb vo wr => ∃ (us vs outs : List (List Int)) (a5 : Option Addr) (c5 : Nat) (a6 : Option Addr) (c6 : Nat) (ao : Option Addr) (co : Nat), va = .slice a5 us.length c5 ∧ vb = .slice a6 vs.length c6 ∧ vo = .slice ao outs.length co ∧ Hid (MgSt fs n gs w φ φ1 bx #[.slice a n cap, .slice ae m ce] ao co outs a5 c5 us a6 c6 vs wr)) (fun va vb _ _ => slLen va + slLen vb)
      case atStart => exact ⟨r5, r6, [], a5, c5, a6, c6, none, 0, rfl, rfl, rfl, hM⟩
      case round =>
        clear hM
        obtain ⟨us, vs, outs, a5, c5, a6, c6, ao, co, rfl, rfl, rfl, hM⟩ := hrel
        have hlen : outs.length + (us.length + vs.length) = k := by
          have := hM.out.perm.length_eq
          rw [List.length_append, List.length_append, hk.out] at this
          exact this
        cases us with
        | nil =>
          have hfin := Lib.hid (MgSt.fin hM.out (by first | exact .inl rfl | exact .inr rfl))
          have hi := hM.out.inv
          have ho := hM.out.own
          have s5 := hM.out.s5
          have s6 := hM.out.s6
          first | (simp only [List.length_cons] at hlen) | (simp only [List.length_nil] at hlen)
          go_wp2_with (first
            | (at_builtin; (refine wpList_apps (α := List Int) rfl _ _ 26 rfl slLL hi ao co outs ho a5 c5 _ s5 rfl rfl (by first | (simp only [List.length_cons]; omega) | (simp only [List.length_nil]; omega)) ?_; intro a7 c7 w7 hi7 ho7 hg7; generalize hL7 : (outs ++ [] : List (List Int)) = L7 at *; replace hL7 := Lib.hid hL7))
            | (at_builtin; (refine wpList_apps (α := List Int) rfl _ _ 26 rfl slLL hi7 a7 c7 _ ho7 a6 c6 _ s6 rfl rfl (by have h := congrArg List.length hL7.out; rw [List.length_append] at h; first | (simp only [List.length_cons] at h ⊢; omega) | (simp only [List.length_cons] at h; omega) | (simp only [List.length_nil] at h; omega) | omega) ?_; intro a8 c8 w8 hi8 ho8 hg8; generalize hL8 : (L7 ++ vs : List (List Int)) = L8 at *; replace hL8 := Lib.hid hL8)))
          obtain ⟨φ9, l9, i9, s9, _⟩ := ho8.release hi8
          go_ret
          have hf := hfin.out
          exact ⟨L8, φ9, a8, c8, rfl, by rw [hbx.out]; exact i9, s9, hf.1, hf.2⟩
        | cons x us =>
          cases vs with
          | nil =>
            have hfin := Lib.hid (MgSt.fin hM.out (by first | exact .inl rfl | exact .inr rfl))
            have hi := hM.out.inv
            have ho := hM.out.own
            have s5 := hM.out.s5
            have s6 := hM.out.s6
            first | (simp only [List.length_cons] at hlen) | (simp only [List.length_nil] at hlen)
            go_wp2_with (first
              | (at_builtin; (refine wpList_apps (α := List Int) rfl _ _ 26 rfl slLL hi ao co outs ho a5 c5 _ s5 rfl rfl (by first | (simp only [List.length_cons]; omega) | (simp only [List.length_nil]; omega)) ?_; intro a7 c7 w7 hi7 ho7 hg7; generalize hL7 : (outs ++ (x :: us) : List (List Int)) = L7 at *; replace hL7 := Lib.hid hL7))
              | (at_builtin; (refine wpList_apps (α := List Int) rfl _ _ 26 rfl slLL hi7 a7 c7 _ ho7 a6 c6 _ s6 rfl rfl (by have h := congrArg List.length hL7.out; rw [List.length_append] at h; first | (simp only [List.length_cons] at h ⊢; omega) | (simp only [List.length_cons] at h; omega) | (simp only [List.length_nil] at h; omega) | omega) ?_; intro a8 c8 w8 hi8 ho8 hg8; generalize hL8 : (L7 ++ [] : List (List Int)) = L8 at *; replace hL8 := Lib.hid hL8)))
            obtain ⟨φ9, l9, i9, s9, _⟩ := ho8.release hi8
            go_ret
            have hf := hfin.out
            exact ⟨L8, φ9, a8, c8, rfl, by rw [hbx.out]; exact i9, s9, hf.1, hf.2⟩
          | cons y vs =>
            obtain ⟨b5, o5, rfl, f5⟩ := hM.out.s5.lists (n := us.length + 1) (Lib.hid rfl) (k := 0) (by omega)
            obtain ⟨ax, cx, sx, f5⟩ := f5 0 (by omega)
            obtain ⟨b6, o6, rfl, f6⟩ := hM.out.s6.lists (n := vs.length + 1) (Lib.hid rfl) (k := 0) (by omega)
            obtain ⟨ay, cy, sy, f6⟩ := f6 0 (by omega)
            have F5 : Hid (∀ w', Fz φ1 w' → w'.cell? ⟨b5, o5, none⟩ = some (.slice ax x.length cx)) := Lib.hid (fun w' h => (f5 w' h).2)
            have F6 : Hid (∀ w', Fz φ1 w' → w'.cell? ⟨b6, o6, none⟩ = some (.slice ay y.length cy)) := Lib.hid (fun w' h => (f6 w' h).2)
            change SlV φ1 ax cx x at sx
            change SlV φ1 ay cy y at sy
            clear f5 f6
            have hgx : Hid (SetG n x) := Lib.hid (hg.out x (hM.out.perm.mem_iff.1 (by simp)))
            have hgy : Hid (SetG n y) := Lib.hid (hg.out y (hM.out.perm.mem_iff.1 (by simp)))
            obtain ⟨lx, hlx⟩ : ∃ j, Hid (x.length = j) := ⟨_, Lib.hid rfl⟩
            obtain ⟨ly, hly⟩ : ∃ j, Hid (y.length = j) := ⟨_, Lib.hid rfl⟩
            rw [hlx.out] at F5
            rw [hly.out] at F6
            obtain ⟨t, ht⟩ : ∃ t, Hid (ahead fs y x = t) := ⟨_, Lib.hid rfl⟩
            simp only [List.length_cons] at hlen
            go_wp2
            refine wp_region_still_tail 7 (by kernel_rfl) (by kernel_rfl) ?_
            simp only [List.take_succ_cons, List.take_zero, List.drop_succ_cons, List.drop_zero]
            change wpStill _ _ (World.drew wr) (fun a' => wpList _ _ _ _ a' (World.drew wr)) _ _
            have hMd := Lib.hid (hM.out.callB ((Below.refl _ _).drew) : MgSt fs n gs w φ φ1 bx #[.slice a n cap, .slice ae m ce] ao co outs (some ⟨b5, o5, none⟩) c5 (x :: us) (some ⟨b6, o6, none⟩) c6 (y :: vs) wr.drew)
            generalize wr.drew = wz at *
            have d5 := F5.out wz hMd.out.inv.fz
            have d6 := F6.out wz hMd.out.inv.fz
            have p0 : wz.cell? ⟨bx, 0, none⟩ = some (.slice a n cap) := hMd.out.k.cell 0
            have p1 : wz.cell? ⟨bx, 1, none⟩ = some (.slice ae m ce) := hMd.out.k.cell 1
            repeat still_step
            refine wpStill_nil ?_
            go_wp2_with fail
            refine (Rahead_any n a cap fs m ae ce es ok wz φ1 hMd.out.inv.fz (s.mono hMd.out.inv.le) (se.mono hMd.out.inv.le) ly ay cy y sy hly hgy lx ax cx x sx hlx hgx ht).mono ?_
            rintro e w5 ⟨rfl, hb5⟩
            have hM5 := Lib.hid (hMd.out.callB hb5)
            have d5 := F5.out w5 hM5.out.inv.fz
            have d6 := F6.out w5 hM5.out.inv.fz
            clear hb5 hMd hM p0 p1
            have hMz := Lib.hid (hM5.out.callB ((Below.refl _ _).drew) : MgSt fs n gs w φ φ1 bx #[.slice a n cap, .slice ae m ce] ao co outs (some ⟨b5, o5, none⟩) c5 (x :: us) (some ⟨b6, o6, none⟩) c6 (y :: vs) w5.drew)
            have l5 := hM5.out.s5.capn
            have l6 := hM5.out.s6.capn
            have m5 := hM5.out.s5.capm
            have m6 := hM5.out.s6.capm
            unfold maxLen at m5 m6
            rw [List.length_cons] at l5 l6
            have i5 : (1 : Int) ≤ (us.length : Int) + 1 := by omega
            have i6 : (1 : Int) ≤ (vs.length : Int) + 1 := by omega
            have t5 := Lib.hid hM5.out.s5
            have t6 := Lib.hid hM5.out.s6
            clear d5 d6
            cases t
            · go_wp2
              clear hM5
              by_cases hc : c5 = 1
              · subst hc
                refine wp_region_any (by kernel_rfl) ?_
                change wpAny _ _ _ _ _ _ _ (World.drew _)
                refine wpAny_take (i := 0) (v := ?_) rfl (by kernel_rfl) (by kernel_rfl) (by kernel_rfl) (fun _ _ _ h => h) (Or.inl ⟨by rfl, ?_⟩) ?_
                rotate_left
                · intro w
                  go_simp
                  try with_reducible rfl
                refine wpAny_take (i := 1) (v := ?_) rfl (by kernel_rfl) (by kernel_rfl) (by kernel_rfl) (fun _ _ _ h => h) (Or.inl ⟨by rfl, ?_⟩) ?_
                rotate_left
                · intro w
                  go_simp
                  try with_reducible rfl
                refine wpAny_take (i := 2) (v := ?_) rfl (by kernel_rfl) (by kernel_rfl) (by kernel_rfl) (fun _ _ _ h => h) (Or.inl ⟨by rfl, ?_⟩) ?_
                rotate_left
                · intro w
                  go_simp
                  try with_reducible rfl
                refine wpAny_take (i := 6) (v := ?_) rfl (by kernel_rfl) (by kernel_rfl) (by kernel_rfl) (fun _ _ _ h => h) (Or.inl ⟨by rfl, ?_⟩) ?_
                rotate_left
                · intro w
                  go_simp
                  try with_reducible rfl
                refine wpAny_take (i := 7) (v := ?_) rfl (by kernel_rfl) (by kernel_rfl) (by kernel_rfl) (fun _ _ _ h => h) (Or.inl ⟨by rfl, ?_⟩) ?_
                rotate_left
                · intro w
                  go_simp
                  try with_reducible rfl
                generalize w5.drew = wz at *
                have hiz := hMz.out.inv
                have hoz := hMz.out.own
                have dz := F5.out wz hiz.fz
                refine wpAny_ready (rs := [3]) (by kernel_rfl) (by simp) ?_
                refine AllReady.cons rfl (fun K hK => ?_) AllReady.nil
                go_simp
                refine hK _ _ ?_
                clear hK K
                refine wpAny_ready (rs := [4]) (by kernel_rfl) (by simp) ?_
                refine AllReady.cons rfl (fun K hK => ?_) AllReady.nil
                go_simp
                refine hK _ _ ?_
                clear hK K
                refine wpAny_ready (rs := [5]) (by kernel_rfl) (by simp) ?_
                refine AllReady.cons rfl (fun K hK => ?_) AllReady.nil
                refine step_appF (α := List Int) rfl _ _ 26 rfl slLL (hiz.alloc _) ao co outs rfl (hoz.alloc _) ⟨wz.heap.size, 0, none⟩ 1 [x] [.slice ax lx cx] 1 rfl rfl (RepL.single ⟨ax, cx, by rw [hlx.out], sx⟩) (new_cells wz #[.slice ax lx cx] 32) (by simp only [List.length_cons, List.length_nil]; omega) ?_
                intro a7 c7 w7 hi7 ho7 hg7 hf7
                go_simp
                refine hK _ _ ?_
                clear hK K
                refine wpAny_take (i := 8) (v := ?_) rfl (by kernel_rfl) (by kernel_rfl) (by kernel_rfl) (fun _ _ _ h => h) (Or.inl ⟨by rfl, ?_⟩) ?_
                rotate_left
                · intro w
                  go_simp
                  try with_reducible rfl
                refine wpAny_take (i := 9) (v := ?_) rfl (by kernel_rfl) (by kernel_rfl) (by kernel_rfl) (fun _ _ _ h => h) (Or.inl ⟨by rfl, ?_⟩) ?_
                rotate_left
                · intro w
                  go_simp
                  try with_reducible rfl
                refine wpAny_done (by kernel_rfl) ?_ _
                go_simp
                go_wp2
                go_roundw
                case rel => exact ⟨us, y :: vs, outs ++ [x], some ⟨b5, o5, none⟩, 0, some ⟨b6, o6, none⟩, c6, a7, c7, (by rw [(t5.out.tail0).1]; rfl), rfl, by simp, Lib.hid (hMz.out.take5 ht.out hi7 ho7 hg7 hf7 (t5.out.tail0).2)⟩
                case measure => simp [slLen]
              · have hc2 : ¬ 1 = c5 := by omega
                refine wp_region_any (by kernel_rfl) ?_
                change wpAny _ _ _ _ _ _ _ (World.drew _)
                refine wpAny_take (i := 0) (v := ?_) rfl (by kernel_rfl) (by kernel_rfl) (by kernel_rfl) (fun _ _ _ h => h) (Or.inl ⟨by rfl, ?_⟩) ?_
                rotate_left
                · intro w
                  go_simp
                  try with_reducible rfl
                refine wpAny_take (i := 1) (v := ?_) rfl (by kernel_rfl) (by kernel_rfl) (by kernel_rfl) (fun _ _ _ h => h) (Or.inl ⟨by rfl, ?_⟩) ?_
                rotate_left
                · intro w
                  go_simp
                  try with_reducible rfl
                refine wpAny_take (i := 2) (v := ?_) rfl (by kernel_rfl) (by kernel_rfl) (by kernel_rfl) (fun _ _ _ h => h) (Or.inl ⟨by rfl, ?_⟩) ?_
                rotate_left
                · intro w
                  go_simp
                  try with_reducible rfl
                refine wpAny_take (i := 6) (v := ?_) rfl (by kernel_rfl) (by kernel_rfl) (by kernel_rfl) (fun _ _ _ h => h) (Or.inl ⟨by rfl, ?_⟩) ?_
                rotate_left
                · intro w
                  go_simp
                  try with_reducible rfl
                refine wpAny_take (i := 7) (v := ?_) rfl (by kernel_rfl) (by kernel_rfl) (by kernel_rfl) (fun _ _ _ h => h) (Or.inl ⟨by rfl, ?_⟩) ?_
                rotate_left
                · intro w
                  go_simp
                  try with_reducible rfl
                generalize w5.drew = wz at *
                have hiz := hMz.out.inv
                have hoz := hMz.out.own
                have dz := F5.out wz hiz.fz
                refine wpAny_ready (rs := [3]) (by kernel_rfl) (by simp) ?_
                refine AllReady.cons rfl (fun K hK => ?_) AllReady.nil
                go_simp
                refine hK _ _ ?_
                clear hK K
                refine wpAny_ready (rs := [4]) (by kernel_rfl) (by simp) ?_
                refine AllReady.cons rfl (fun K hK => ?_) AllReady.nil
                go_simp
                refine hK _ _ ?_
                clear hK K
                refine wpAny_ready (rs := [5]) (by kernel_rfl) (by simp) ?_
                refine AllReady.cons rfl (fun K hK => ?_) AllReady.nil
                refine step_appF (α := List Int) rfl _ _ 26 rfl slLL (hiz.alloc _) ao co outs rfl (hoz.alloc _) ⟨wz.heap.size, 0, none⟩ 1 [x] [.slice ax lx cx] 1 rfl rfl (RepL.single ⟨ax, cx, by rw [hlx.out], sx⟩) (new_cells wz #[.slice ax lx cx] 32) (by simp only [List.length_cons, List.length_nil]; omega) ?_
                intro a7 c7 w7 hi7 ho7 hg7 hf7
                go_simp
                refine hK _ _ ?_
                clear hK K
                refine wpAny_take (i := 8) (v := ?_) rfl (by kernel_rfl) (by kernel_rfl) (by kernel_rfl) (fun _ _ _ h => h) (Or.inl ⟨by rfl, ?_⟩) ?_
                rotate_left
                · intro w
                  go_simp
                  try with_reducible rfl
                refine wpAny_take (i := 9) (v := ?_) rfl (by kernel_rfl) (by kernel_rfl) (by kernel_rfl) (fun _ _ _ h => h) (Or.inl ⟨by rfl, ?_⟩) ?_
                rotate_left
                · intro w
                  go_simp
                  try with_reducible rfl
                refine wpAny_done (by kernel_rfl) ?_ _
                go_simp
                go_wp2
                go_roundw
                case rel => exact ⟨us, y :: vs, outs ++ [x], some ⟨b5, o5 + 1, none⟩, c5 - 1, some ⟨b6, o6, none⟩, c6, a7, c7, (by first | rfl | simp), rfl, by simp, Lib.hid (hMz.out.take5 ht.out hi7 ho7 hg7 hf7 (t5.out.tail1 rfl))⟩
                case measure => simp [slLen]
            · go_wp2
              clear hM5
              by_cases hc : c6 = 1
              · subst hc
                refine wp_region_any (by kernel_rfl) ?_
                change wpAny _ _ _ _ _ _ _ (World.drew _)
                refine wpAny_take (i := 0) (v := ?_) rfl (by kernel_rfl) (by kernel_rfl) (by kernel_rfl) (fun _ _ _ h => h) (Or.inl ⟨by rfl, ?_⟩) ?_
                rotate_left
                · intro w
                  go_simp
                  try with_reducible rfl
                refine wpAny_take (i := 1) (v := ?_) rfl (by kernel_rfl) (by kernel_rfl) (by kernel_rfl) (fun _ _ _ h => h) (Or.inl ⟨by rfl, ?_⟩) ?_
                rotate_left
                · intro w
                  go_simp
                  try with_reducible rfl
                refine wpAny_take (i := 2) (v := ?_) rfl (by kernel_rfl) (by kernel_rfl) (by kernel_rfl) (fun _ _ _ h => h) (Or.inl ⟨by rfl, ?_⟩) ?_
                rotate_left
                · intro w
                  go_simp
                  try with_reducible rfl
                refine wpAny_take (i := 6) (v := ?_) rfl (by kernel_rfl) (by kernel_rfl) (by kernel_rfl) (fun _ _ _ h => h) (Or.inl ⟨by rfl, ?_⟩) ?_
                rotate_left
                · intro w
                  go_simp
                  try with_reducible rfl
                refine wpAny_take (i := 7) (v := ?_) rfl (by kernel_rfl) (by kernel_rfl) (by kernel_rfl) (fun _ _ _ h => h) (Or.inl ⟨by rfl, ?_⟩) ?_
                rotate_left
                · intro w
                  go_simp
                  try with_reducible rfl
                generalize w5.drew = wz at *
                have hiz := hMz.out.inv
                have hoz := hMz.out.own
                have dz := F6.out wz hiz.fz
                refine wpAny_ready (rs := [3]) (by kernel_rfl) (by simp) ?_
                refine AllReady.cons rfl (fun K hK => ?_) AllReady.nil
                go_simp
                refine hK _ _ ?_
                clear hK K
                refine wpAny_ready (rs := [4]) (by kernel_rfl) (by simp) ?_
                refine AllReady.cons rfl (fun K hK => ?_) AllReady.nil
                go_simp
                refine hK _ _ ?_
                clear hK K
                refine wpAny_ready (rs := [5]) (by kernel_rfl) (by simp) ?_
                refine AllReady.cons rfl (fun K hK => ?_) AllReady.nil
                refine step_appF (α := List Int) rfl _ _ 26 rfl slLL (hiz.alloc _) ao co outs rfl (hoz.alloc _) ⟨wz.heap.size, 0, none⟩ 1 [y] [.slice ay ly cy] 1 rfl rfl (RepL.single ⟨ay, cy, by rw [hly.out], sy⟩) (new_cells wz #[.slice ay ly cy] 32) (by simp only [List.length_cons, List.length_nil]; omega) ?_
                intro a7 c7 w7 hi7 ho7 hg7 hf7
                go_simp
                refine hK _ _ ?_
                clear hK K
                refine wpAny_take (i := 8) (v := ?_) rfl (by kernel_rfl) (by kernel_rfl) (by kernel_rfl) (fun _ _ _ h => h) (Or.inl ⟨by rfl, ?_⟩) ?_
                rotate_left
                · intro w
                  go_simp
                  try with_reducible rfl
                refine wpAny_take (i := 9) (v := ?_) rfl (by kernel_rfl) (by kernel_rfl) (by kernel_rfl) (fun _ _ _ h => h) (Or.inl ⟨by rfl, ?_⟩) ?_
                rotate_left
                · intro w
                  go_simp
                  try with_reducible rfl
                refine wpAny_done (by kernel_rfl) ?_ _
                go_simp
                go_wp2
                go_roundw
                case rel => exact ⟨x :: us, vs, outs ++ [y], some ⟨b5, o5, none⟩, c5, some ⟨b6, o6, none⟩, 0, a7, c7, rfl, (by rw [(t6.out.tail0).1]; rfl), by simp, Lib.hid (hMz.out.take6 ht.out hi7 ho7 hg7 hf7 (t6.out.tail0).2)⟩
                case measure => simp [slLen]
              · have hc2 : ¬ 1 = c6 := by omega
                refine wp_region_any (by kernel_rfl) ?_
                change wpAny _ _ _ _ _ _ _ (World.drew _)
                refine wpAny_take (i := 0) (v := ?_) rfl (by kernel_rfl) (by kernel_rfl) (by kernel_rfl) (fun _ _ _ h => h) (Or.inl ⟨by rfl, ?_⟩) ?_
                rotate_left
                · intro w
                  go_simp
                  try with_reducible rfl
                refine wpAny_take (i := 1) (v := ?_) rfl (by kernel_rfl) (by kernel_rfl) (by kernel_rfl) (fun _ _ _ h => h) (Or.inl ⟨by rfl, ?_⟩) ?_
                rotate_left
                · intro w
                  go_simp
                  try with_reducible rfl
                refine wpAny_take (i := 2) (v := ?_) rfl (by kernel_rfl) (by kernel_rfl) (by kernel_rfl) (fun _ _ _ h => h) (Or.inl ⟨by rfl, ?_⟩) ?_
                rotate_left
                · intro w
                  go_simp
                  try with_reducible rfl
                refine wpAny_take (i := 6) (v := ?_) rfl (by kernel_rfl) (by kernel_rfl) (by kernel_rfl) (fun _ _ _ h => h) (Or.inl ⟨by rfl, ?_⟩) ?_
                rotate_left
                · intro w
                  go_simp
                  try with_reducible rfl
                refine wpAny_take (i := 7) (v := ?_) rfl (by kernel_rfl) (by kernel_rfl) (by kernel_rfl) (fun _ _ _ h => h) (Or.inl ⟨by rfl, ?_⟩) ?_
                rotate_left
                · intro w
                  go_simp
                  try with_reducible rfl
                generalize w5.drew = wz at *
                have hiz := hMz.out.inv
                have hoz := hMz.out.own
                have dz := F6.out wz hiz.fz
                refine wpAny_ready (rs := [3]) (by kernel_rfl) (by simp) ?_
                refine AllReady.cons rfl (fun K hK => ?_) AllReady.nil
                go_simp
                refine hK _ _ ?_
                clear hK K
                refine wpAny_ready (rs := [4]) (by kernel_rfl) (by simp) ?_
                refine AllReady.cons rfl (fun K hK => ?_) AllReady.nil
                go_simp
                refine hK _ _ ?_
                clear hK K
                refine wpAny_ready (rs := [5]) (by kernel_rfl) (by simp) ?_
                refine AllReady.cons rfl (fun K hK => ?_) AllReady.nil
                refine step_appF (α := List Int) rfl _ _ 26 rfl slLL (hiz.alloc _) ao co outs rfl (hoz.alloc _) ⟨wz.heap.size, 0, none⟩ 1 [y] [.slice ay ly cy] 1 rfl rfl (RepL.single ⟨ay, cy, by rw [hly.out], sy⟩) (new_cells wz #[.slice ay ly cy] 32) (by simp only [List.length_cons, List.length_nil]; omega) ?_
                intro a7 c7 w7 hi7 ho7 hg7 hf7
                go_simp
                refine hK _ _ ?_
                clear hK K
                refine wpAny_take (i := 8) (v := ?_) rfl (by kernel_rfl) (by kernel_rfl) (by kernel_rfl) (fun _ _ _ h => h) (Or.inl ⟨by rfl, ?_⟩) ?_
                rotate_left
                · intro w
                  go_simp
                  try with_reducible rfl
                refine wpAny_take (i := 9) (v := ?_) rfl (by kernel_rfl) (by kernel_rfl) (by kernel_rfl) (fun _ _ _ h => h) (Or.inl ⟨by rfl, ?_⟩) ?_
                rotate_left
                · intro w
                  go_simp
                  try with_reducible rfl
                refine wpAny_done (by kernel_rfl) ?_ _
                go_simp
                go_wp2
                go_roundw
                case rel => exact ⟨x :: us, vs, outs ++ [y], some ⟨b5, o5, none⟩, c5, some ⟨b6, o6 + 1, none⟩, c6 - 1, a7, c7, rfl, (by first | rfl | simp), by simp, Lib.hid (hMz.out.take6 ht.out hi7 ho7 hg7 hf7 (t6.out.tail1 rfl))⟩
                case measure => simp [slLen]
end Go.Proofs.YtkfmadeeobalaaaDoor

namespace Go.Proofs.YtkfmadeeobalaaaDoor
open Go.RowKit
set_option linter.unusedVariables false
/-- The set of fields whose bits a number has. -/
def setK (v k : Nat) : List Int := ((List.range k).filter (fun i : Nat => v.testBit i)).map (fun i : Nat => (i : Int))
theorem setK_t {v k : Nat} (h : v.testBit k = true) : setK v (k + 1) = setK v k ++ [(k : Int)] := by
  have e : List.filter (fun i : Nat => v.testBit i) [k] = [k] := by rw [List.filter_cons_of_pos h]; rfl
  unfold setK; rw [List.range_succ, List.filter_append, List.map_append, e]; rfl
theorem setK_f {v k : Nat} (h : v.testBit k = false) : setK v (k + 1) = setK v k := by
  have e : List.filter (fun i : Nat => v.testBit i) [k] = [] := by rw [List.filter_cons_of_neg (by rw [h]; simp)]; rfl
  unfold setK; rw [List.range_succ, List.filter_append, List.map_append, e]; simp
theorem setK_len (v k : Nat) : (setK v k).length ≤ k := by
  unfold setK; rw [List.length_map]; exact Nat.le_trans (List.length_filter_le _ _) (by simp)
theorem setK_G (v k : Nat) : SetG k (setK v k) := by
  refine ⟨fun j hj => ?_, setK_len v k⟩
  unfold setK at hj
  obtain ⟨i, hi, rfl⟩ := List.mem_map.1 hj
  have := List.mem_range.1 (List.mem_filter.1 hi).1
  omega
def setsK (n k : Nat) : List (List Int) := (List.range k).map (fun v => setK v n)
theorem setsK_succ (n k : Nat) : setsK n (k + 1) = setsK n k ++ [setK k n] := by unfold setsK; rw [List.range_succ, List.map_append]; rfl
theorem setsK_len (n k : Nat) : (setsK n k).length = k := by unfold setsK; simp
theorem bits_and64 {x : Nat} (hx : x < 4294967296) : bits .and .i64 (x : Int) 1 = ((x % 2 : Nat) : Int) := by
  have e : (BitVec.ofInt 64 (x : Int) &&& BitVec.ofInt 64 1).toNat = x % 2 := by
    rw [BitVec.toNat_and, BitVec.toNat_ofInt, BitVec.toNat_ofInt]
    have h1 : ((x : Int) % ((2 ^ 64 : Nat) : Int)).toNat = x := by omega
    have h2 : ((1 : Int) % ((2 ^ 64 : Nat) : Int)).toNat = 1 := by decide
    rw [h1, h2, Nat.and_one_is_mod]
  show IntKind.i64.wrap ((BitVec.ofInt 64 (x : Int) &&& BitVec.ofInt 64 1).toNat : Int) = _
  rw [e]
  exact IntWalk.i64_in _ (by omega)
theorem bit64 {v k : Nat} (hv : v < 4294967296) : bits .and .i64 ((v : Int) / 2 ^ k) 1 = ((v / 2 ^ k % 2 : Nat) : Int) := by
  have e : ((v : Int) / 2 ^ k) = ((v / 2 ^ k : Nat) : Int) := by simp
  rw [e]
  exact bits_and64 (Nat.lt_of_le_of_lt (Nat.div_le_self _ _) hv)
/-- The state of sets. -/
structure SeSt (w0 : World) (φ0 φ : Phi) (bx : Nat) (cs : Array Value) (ao : Option Addr) (co : Nat) (xs : List (List Int)) (al : Option Addr) (cl : Nat) (ys : List Int) (wr : World) : Prop where
  le : φ0.le φ
  new : ∀ b, b < w0.heap.size → φ b = φ0 b
  ow : Ow2 w0 φ 32 3 ao co xs al cl ys wr
  k : Blk wr bx cs 25
  far1 : ∀ x, ao = some x → x.block ≠ bx
  far2 : ∀ x, al = some x → x.block ≠ bx
section
variable {w0 wr w' : World} {φ0 φ : Phi} {bx : Nat} {cs : Array Value} {ao al : Option Addr} {co cl : Nat} {xs : List (List Int)} {ys : List Int}
theorem SeSt.callB (h : SeSt w0 φ0 φ bx cs ao co xs al cl ys wr) (hb : Below wr.heap.size wr w') : SeSt w0 φ0 φ bx cs ao co xs al cl ys w' :=
  ⟨h.le, h.new, h.ow.callB hb, h.k.callB hb, h.far1, h.far2⟩
theorem SeSt.in2 (h : SeSt w0 φ0 φ bx cs ao co xs al cl ys wr) {o : Obj} {a' : Option Addr} {c' : Nat} {ys' : List Int} (hi : Inv w0.heap.size w0 φ φ w') (ho : Own w0.heap.size φ w' 3 a' c' ys') (hg : (wr.alloc o).grownBy w' (al.map (·.block))) (hf : ∀ x, a' = some x → al.map (·.block) = some x.block ∨ (wr.alloc o).heap.size ≤ x.block) : SeSt w0 φ0 φ bx cs ao co xs a' c' ys' w' := by
  have k := h.callB ((Below.refl _ _).alloc (Nat.le_refl _) o)
  obtain ⟨k1, k2⟩ := far_of (w := w0) h.k h.far2 hg hf
  exact ⟨h.le, h.new, (k.ow.swap.step1 hi ho hg hf).swap, k1, h.far1, k2⟩
theorem SeSt.frozen2 (h : SeSt w0 φ0 φ bx cs ao co xs al cl ys wr) : ∃ φ', SeSt w0 φ0 φ' bx cs ao co xs none 0 [] wr ∧ SlV φ' al cl ys := by
  obtain ⟨φ1, l1, n1, i1, o1, s1⟩ := h.ow.rel2
  exact ⟨φ1, ⟨h.le.trans l1, fun b hb => (n1 b hb).trans (h.new b hb), ⟨i1, o1, Own.nil _ _ _ _, fun _ _ _ h => by cases h⟩, h.k, h.far1, fun _ h => by cases h⟩, s1⟩
theorem SeSt.in1 (h : SeSt w0 φ0 φ bx cs ao co xs none 0 [] wr) {o : Obj} {a' : Option Addr} {c' : Nat} {xs' : List (List Int)} (hi : Inv w0.heap.size w0 φ φ w') (ho : Own w0.heap.size φ w' 32 a' c' xs') (hg : (wr.alloc o).grownBy w' (ao.map (·.block))) (hf : ∀ x, a' = some x → ao.map (·.block) = some x.block ∨ (wr.alloc o).heap.size ≤ x.block) : SeSt w0 φ0 φ bx cs a' c' xs' none 0 [] w' := by
  obtain ⟨k1, k2⟩ := far_of (w := w0) h.k h.far1 hg hf
  exact ⟨h.le, h.new, ⟨hi, ho, Own.nil _ _ _ _, fun _ _ _ h => by cases h⟩, k1, k2, fun _ h => by cases h⟩
end
set_option maxRecDepth 100000 in
set_option maxHeartbeats 1000000 in
theorem sets_any
  (n : Nat) (a : Option Addr) (cap : Nat) (fs : List Fld) (m : Nat) (ae : Option Addr) (ce : Nat) (es : List Edt) (ok : Hid (PlOk fs es n m))
    (w : World) (φ : Phi) (hφ : Fz φ w) (s : SlV φ a cap fs) (se : SlV φ ae ce es) :
    Calls Tryd.prog 114 #[.agg #[.slice a n cap, .slice ae m ce]] w (SortPost fs (setsK n (2 ^ n)) φ w) := by
  have hn12 := ok.out.pos
  have hS0 : Hid (SeSt w φ φ w.heap.size #[.slice a n cap, .slice ae m ce] none 0 (setsK n 0) none 0 [] (w.alloc (.cells #[.slice a n cap, .slice ae m ce] 25))) :=
    Lib.hid ⟨φ.le_refl, fun _ _ => rfl, ⟨(Inv.start hφ).alloc _, Own.nil _ _ _ _, Own.nil _ _ _ _, fun _ _ _ h => by cases h⟩, Blk.new w _ _, (fun _ h => by cases h), fun _ h => by cases h⟩
  have hpw : 2 ^ n ≤ 4096 := Nat.le_trans (Nat.pow_le_pow_right (by decide) hn12.2) (by decide)
  obtain ⟨M, hM⟩ : ∃ M, Hid (2 ^ n = M) := ⟨_, Lib.hid rfl⟩
  rw [hM.out] at hpw
  have hMi : (2 : Int) ^ n = (M : Int) := by rw [← hM.out]; simp
  go_enter Tryd.func114, Tryd.ntmps114
  go_wp2
  generalize w.alloc (.cells #[.slice a n cap, .slice ae m ce] 25) = W at *
  generalize hbx : w.heap.size = bx at *
  replace hbx := Lib.hid hbx
  go_loopw [3, 11] (fun vo i wr => ∃ (v : Nat) (φ' : Phi) (ao : Option Addr) (co : Nat), v ≤ M ∧ vo = .slice ao (setsK n v).length co ∧ i = .int .i64 v ∧ Hid (SeSt w φ φ' bx #[.slice a n cap, .slice ae m ce] ao co (setsK n v) none 0 [] wr)) (fun _ i _ => M - (intOf i).toNat)
  case atStart => exact ⟨0, φ, none, 0, Nat.zero_le _, rfl, rfl, hS0⟩
  case round =>
    clear hS0
    obtain ⟨v, φ', ao, co, hv, rfl, rfl, hS⟩ := hrel
    by_cases hlt : v < M
    · have p0 : wr.cell? ⟨bx, 0, none⟩ = some (.slice a n cap) := hS.out.k.cell 0
      have hsk := Lib.hid (setsK_succ n v)
      have hsl := Lib.hid (setsK_len n v)
      go_wp2
      clear p0
      go_loopw [5, 17] (fun vl i wr => ∃ (k : Nat) (al : Option Addr) (cl : Nat), k ≤ n ∧ vl = .slice al (setK v k).length cl ∧ i = .int .i64 k ∧ Hid (SeSt w φ φ' bx #[.slice a n cap, .slice ae m ce] ao co (setsK n v) al cl (setK v k) wr)) (fun _ i _ => n - (intOf i).toNat)
      case atStart => exact ⟨0, none, 0, Nat.zero_le _, rfl, rfl, hS⟩
      case round =>
        clear hS
        obtain ⟨k, al, cl, hk, rfl, rfl, hS⟩ := hrel
        by_cases hlk : k < n
        · have hb := bit64 (v := v) (k := k) (by omega)
          have hkl := Lib.hid (setK_len v k)
          have hbt := Nat.testBit_eq_decide_div_mod_eq (x := v) (i := k)
          have HT := Lib.hid (setK_t (v := v) (k := k))
          have HF := Lib.hid (setK_f (v := v) (k := k))
          have hlt2 : v / 2 ^ k % 2 < 2 := Nat.mod_lt _ (by decide)
          generalize v / 2 ^ k % 2 = bb at *
          by_cases h1 : bb = 1
          · subst h1
            have H2 := Lib.hid (HT.out (by rw [hbt]; rfl))
            have hbb : (bits .and .i64 ((v : Int) / 2 ^ k) 1 == 1) = true := by rw [hb]; rfl
            have hin := Lib.hid hS.out.ow.inv
            have hon := Lib.hid hS.out.ow.o2
            clear hb hbt HT HF hlt2
            go_wp2_with (at_builtin; refine wpList_app1F (α := Int) rfl _ _ 32 rfl slI hin.out al cl _ hon.out _ _ (k : Int) rfl rfl 1 rfl (by have := hkl.out; omega) ?_; intro a3 c3 w4 hi4 ho4 hg4 hf4)
            go_roundw
            case rel => exact ⟨k + 1, a3, c3, by omega, by rw [H2.out]; simp, by go_num, by rw [H2.out]; exact Lib.hid (hS.out.in2 hi4 ho4 hg4 hf4)⟩
            case measure => (simp [intOf] <;> omega)
          · have h0 : bb = 0 := by omega
            subst h0
            have H2 := Lib.hid (HF.out (by rw [hbt]; rfl))
            have hbb : (bits .and .i64 ((v : Int) / 2 ^ k) 1 == 1) = false := by rw [hb]; rfl
            clear hb hbt HT HF hlt2
            go_wp2
            go_roundw
            case rel => exact ⟨k + 1, al, cl, by omega, by rw [H2.out], by go_num, by rw [H2.out]; exact hS⟩
            case measure => (simp [intOf] <;> omega)
        · obtain rfl : k = n := by omega
          obtain ⟨φ2, hS3, hsl3⟩ := hS.out.frozen2
          have hS3 := Lib.hid hS3
          have hsl3 := Lib.hid hsl3
          have hin := Lib.hid hS3.out.ow.inv
          have hon := Lib.hid hS3.out.ow.o1
          go_wp2_with (at_builtin; refine wpList_app1F (α := List Int) rfl _ _ 26 rfl slLL hin.out ao co _ hon.out _ _ (setK v k) ⟨al, cl, rfl, hsl3.out⟩ rfl 1 rfl (by have := hsl.out; omega) ?_; intro a3 c3 w4 hi4 ho4 hg4 hf4)
          go_roundw
          case rel => exact ⟨v + 1, φ2, a3, c3, by omega, by rw [hsk.out]; simp, by go_num, by rw [hsk.out]; exact Lib.hid (hS3.out.in1 hi4 ho4 hg4 hf4)⟩
          case measure => (simp [intOf] <;> omega)
    · obtain rfl : v = M := by omega
      have p0 : wr.cell? ⟨bx, 0, none⟩ = some (.slice a n cap) := hS.out.k.cell 0
      have p1 : wr.cell? ⟨bx, 1, none⟩ = some (.slice ae m ce) := hS.out.k.cell 1
      obtain ⟨φ3, l3, i3, s3, n3⟩ := hS.out.ow.o1.release hS.out.ow.inv
      have hI3 : Hid (Inv w.heap.size w φ φ3 wr) := Lib.hid ⟨i3.bel, i3.base, i3.fz, hS.out.le.trans l3, fun b hb => (i3.new b hb).trans (hS.out.new b hb)⟩
      have hsl := Lib.hid (setsK_len n v)
      have hgs : Hid (∀ l ∈ setsK n v, SetG n l) := Lib.hid (fun l hl => by
        unfold setsK at hl
        obtain ⟨u, _, rfl⟩ := List.mem_map.1 hl
        exact setK_G u n)
      rw [hM.out]
      rw [hsl.out]
      clear i3 n3 hS
      go_wp2_with fail
      refine (sorted_any n a cap fs m ae ce es ok v hpw (setsK n v) (by rw [hsl.out]; exact Nat.le_refl _) v hsl wr φ3 hI3.out.fz (s.mono hI3.out.le) (se.mono hI3.out.le) _ co s3 hgs).mono ?_
      rintro e w5 ⟨rs, φ5, a5, c5, rfl, hi5, s5, p5, o5⟩
      have hI5 := Lib.hid (hI3.out.call hi5)
      clear hi5 p0 p1
      go_wp2
      go_ret
      exact ⟨rs, φ5, a5, c5, rfl, hI5.out, s5, by rw [hM.out]; exact p5, o5⟩
end Go.Proofs.YtkfmadeeobalaaaDoor

namespace Go.Proofs.YtkfmadeeobalaaaDoor
open Go.RowKit
set_option linter.unusedVariables false
/-- A number whose bits are as asked. -/
def numOf (p : Nat → Bool) : Nat → Nat
  | 0 => 0
  | n + 1 => numOf p n ||| (if p n = true then 2 ^ n else 0)
theorem numOf_lt (p : Nat → Bool) : ∀ n, numOf p n < 2 ^ n
  | 0 => by simp [numOf]
  | n + 1 => by
    have h1 := numOf_lt p n
    have h2 : 2 ^ n < 2 ^ (n + 1) := Nat.pow_lt_pow_right (by decide) (by omega)
    rw [numOf]
    refine Nat.or_lt_two_pow (by omega) ?_
    split
    · exact h2
    · omega
theorem numOf_test (p : Nat → Bool) : ∀ {n i : Nat}, i < n → (numOf p n).testBit i = p i
  | n + 1, i, hi => by
    rw [numOf, Nat.testBit_or]
    by_cases e : i = n
    · subst e
      rw [Nat.testBit_lt_two_pow (numOf_lt p i), Bool.false_or]
      by_cases h : p i = true
      · rw [if_pos h, Nat.testBit_two_pow, h]; simp
      · rw [if_neg h]; simp; simpa using h
    · rw [numOf_test p (by omega)]
      split
      · rw [Nat.testBit_two_pow]; simp; intro h; omega
      · simp
theorem apL_set (a b : List Int) (n : Nat) : apL a b n ∈ setsK n (2 ^ n) := by
  unfold setsK
  rw [List.mem_map]
  refine ⟨numOf (fun i => decide (a.getD i 0 ≠ b.getD i 0)) n, List.mem_range.2 (numOf_lt _ _), ?_⟩
  unfold setK apL
  congr 1
  apply List.filter_congr
  intro i hi
  exact numOf_test _ (List.mem_range.1 hi)
theorem setK_sorted (v k : Nat) : (setK v k).Pairwise (· < ·) := by
  unfold setK
  rw [List.pairwise_map]
  refine List.Pairwise.filter _ ?_
  refine List.Pairwise.imp ?_ (List.pairwise_lt_range (n := k))
  intro x y h
  exact Int.ofNat_lt.2 h
theorem sorted_ext : ∀ {a b : List Int}, a.Pairwise (· < ·) → b.Pairwise (· < ·) → (∀ x, x ∈ a ↔ x ∈ b) → a = b
  | [], [], _, _, _ => rfl
  | [], y :: b, _, _, h => by have := (h y).2 (by simp); simp at this
  | x :: a, [], _, _, h => by have := (h x).1 (by simp); simp at this
  | x :: a, y :: b, ha, hb, h => by
    rw [List.pairwise_cons] at ha hb
    have hxy : x = y := by
      rcases List.mem_cons.1 ((h x).1 (by simp)) with e | e
      · exact e
      · rcases List.mem_cons.1 ((h y).2 (by simp)) with e2 | e2
        · exact e2.symm
        · have := ha.1 y e2; have := hb.1 x e; omega
    subst hxy
    congr 1
    refine sorted_ext ha.2 hb.2 (fun z => ⟨fun hz => ?_, fun hz => ?_⟩)
    · rcases List.mem_cons.1 ((h z).1 (by simp [hz])) with e | e
      · have := ha.1 z hz; omega
      · exact e
    · rcases List.mem_cons.1 ((h z).2 (by simp [hz])) with e | e
      · have := hb.1 z hz; omega
      · exact e
theorem sub_light {fs : List Fld} {es : List Edt} {n m : Nat} (h : PlOk fs es n m) {c l : List Int} (hc : c.Pairwise (· < ·)) (hl : l.Pairwise (· < ·)) (hg : ∀ k ∈ l, 0 ≤ k ∧ k < (n : Int)) (hs : ∀ x ∈ c, x ∈ l) : c = l ∨ wSum fs c < wSum fs l := by
  by_cases hh : ∀ x ∈ l, x ∈ c
  · exact .inl (sorted_ext hc hl (fun x => ⟨hs x, hh x⟩))
  · right
    obtain ⟨k, hk, hkc⟩ : ∃ k, k ∈ l ∧ k ∉ c := by
      simp only [Classical.not_forall] at hh
      obtain ⟨k, h1, h2⟩ := hh
      exact ⟨k, h1, h2⟩
    have e := sum_erase (wOf fs) hk
    have hw := wts h (hg k hk).1 (hg k hk).2
    have h2 := sum_le (wOf fs) (nodup_of_lt hc) (b := l.erase k) (fun x hx => (List.mem_erase_of_ne (fun q => hkc (by rw [← q]; exact hx))).2 (hs x hx)) (fun x hx => by
      have := hg x (List.mem_of_mem_erase hx)
      have := wts h this.1 this.2
      omega)
    unfold wSum
    omega
/-- What a set that is enough holds. -/
theorem enough {fs : List Fld} {es : List Edt} {n m : Nat} {rec l : List Int} (hr : rec.length = n) (h : (firstS fs es n m rec l).2 = true) :
    ∃ y, y ∈ comps fs (List.replicate n true) n 0 (List.replicate n 0) ∧ (failL es y n m).length = 0 ∧ ∀ x ∈ apL rec y n, x ∈ l := by
  obtain ⟨k1, k2⟩ := firstS_some h
  obtain ⟨k3, k4⟩ := (mem_first hr).1 k1
  obtain ⟨k5, k6⟩ := pass_parts.1 k2
  refine ⟨_, mem_all.2 ⟨k3, k5⟩, k6, fun x hx => ?_⟩
  obtain ⟨j, rfl, hj, hne⟩ := mem_apL.1 hx
  have := k4 j hj
  by_cases hjo : (j : Int) ∈ l
  · exact hjo
  · rw [if_neg hjo] at this; exact absurd this.symm hne
theorem least_ref {fs : List Fld} {es : List Edt} {n m : Nat} (h : PlOk fs es n m) {rec : List Int} (hr : rec.length = n) {rs : List (List Int)} (hp : rs.Perm (setsK n (2 ^ n))) (hs : Sor fs rs) :
    rs.find? (fun l => (firstS fs es n m rec l).2) = if (leastS fs es n m rec).1.2.2 = true then some (leastS fs es n m rec).1.1 else none := by
  have hI := leastS_inv fs es n m rec
  have hset : ∀ l ∈ rs, l.Pairwise (· < ·) ∧ ∀ k ∈ l, 0 ≤ k ∧ k < (n : Int) := fun l hl => by
    have := hp.mem_iff.1 hl
    unfold setsK at this
    obtain ⟨v, _, rfl⟩ := List.mem_map.1 this
    exact ⟨setK_sorted v n, (setK_G v n).mem⟩
  cases hfo : (leastS fs es n m rec).1.2.2 with
  | false =>
    rw [if_neg (by simp), List.find?_eq_none]
    intro l hl
    cases hq : (firstS fs es n m rec l).2 with
    | false => simp
    | true =>
      obtain ⟨y, h1, h2, _⟩ := enough hr hq
      exact absurd h2 (hI.no hfo y h1)
  | true =>
    rw [if_pos rfl]
    obtain ⟨b, hb⟩ : ∃ b, (leastS fs es n m rec).1.1 = b := ⟨_, rfl⟩
    obtain ⟨lw, hlw⟩ : ∃ lw, (leastS fs es n m rec).1 = (b, lw, true) := ⟨(leastS fs es n m rec).1.2.1, by rw [← hb, ← hfo]⟩
    rw [hb]
    rw [hlw] at hI
    obtain ⟨_, ⟨x0, hx0, hf0, he0⟩, h3⟩ := hI.yes rfl
    dsimp only at he0 h3
    have hbl := (least_law h hr hlw).2.1
    have hbm : b ∈ rs := hp.mem_iff.2 (by rw [he0]; exact apL_set _ _ _)
    cases hfd : rs.find? (fun l => (firstS fs es n m rec l).2) with
    | none =>
      rw [List.find?_eq_none] at hfd
      exact absurd hbl (hfd b hbm)
    | some l =>
      obtain ⟨hlp, as', bs', e, hno⟩ := List.find?_eq_some_iff_append.1 hfd
      have hlm := List.mem_of_find?_eq_some hfd
      have h1 : ahead fs b l = false := by
        rw [e] at hbm hs
        unfold Sor at hs
        rw [List.pairwise_append, List.pairwise_cons] at hs
        rcases List.mem_append.1 hbm with hm | hm
        · have := hno b hm; rw [hbl] at this; simp at this
        · rcases List.mem_cons.1 hm with rfl | hm
          · exact ahead_irrefl
          · exact hs.2.1.1 b hm
      have h2 : ahead fs l b = false := by
        obtain ⟨y, k1, k2, k3⟩ := enough hr hlp
        have k4 := h3 y k1 k2
        obtain ⟨g1, g2⟩ := hset l hlm
        rcases sub_light h (apL_sorted rec y n) g1 g2 k3 with e2 | e2
        · rw [e2] at k4; exact k4
        · cases hq : ahead fs l b with
          | false => rfl
          | true =>
            have h5 : ahead fs (apL rec y n) l = true := ahead_iff.2 (.inl e2)
            rw [ahead_trans h5 hq] at k4; cases k4
      rw [ahead_total h2 h1]
theorem find_at {α : Type} {p : α → Bool} {d : α} : ∀ {l : List α} {k : Nat}, k < l.length → (∀ i, i < k → p (l.getD i d) = false) → p (l.getD k d) = true → l.find? p = some (l.getD k d)
  | x :: l, 0, _, _, h => by
    have h' : p x = true := h
    rw [List.find?_cons, h']; rfl
  | x :: l, k + 1, hk, hn, h => by
    have h0 : p x = false := hn 0 (by omega)
    rw [List.find?_cons, h0]
    exact find_at (l := l) (k := k) (by simpa using hk) (fun i hi => by have := hn (i + 1) (by omega); simpa using this) (by simpa using h)
theorem find_none {α : Type} {p : α → Bool} {d : α} {l : List α} (hn : ∀ i, i < l.length → p (l.getD i d) = false) : l.find? p = none := by
  rw [List.find?_eq_none]
  intro x hx
  obtain ⟨i, hi, rfl⟩ := List.getElem_of_mem hx
  have := hn i hi
  rw [getD_elem0 _ _ _ hi] at this
  rw [this]; simp
def lres (o : Option (List Int)) : List Int × Bool := match o with
  | some l => (l, true)
  | none => ([], false)
set_option maxRecDepth 100000 in
set_option maxHeartbeats 1000000 in
theorem Rleast_any
  (n : Nat) (a : Option Addr) (cap : Nat) (fs : List Fld) (m : Nat) (ae : Option Addr) (ce : Nat) (es : List Edt) (ok : Hid (PlOk fs es n m))
    (w : World) (φ : Phi) (hφ : Fz φ w) (s : SlV φ a cap fs) (se : SlV φ ae ce es) (a1 : Option Addr) (c1 : Nat) (rec : List Int) (sr : SlV φ a1 c1 rec) (hrl : Hid (rec.length = n)) {l : List Int} {b : Bool} (hq : Hid (lres (if (leastS fs es n m rec).1.2.2 = true then some (leastS fs es n m rec).1.1 else none) = (l, b))) :
    Calls Tryd.prog 82 #[.agg #[.slice a n cap, .slice ae m ce], .slice a1 n c1] w (SlBPost l b φ w) := by
  have hn12 := ok.out.pos
  have hS0 := Lib.hid (BxSt.new hφ #[.slice a n cap, .slice ae m ce] 25)
  have hi0 := Lib.hid ((Inv.start hφ).alloc (.cells #[.slice a n cap, .slice ae m ce] 25))
  go_enter Tryd.func82, Tryd.ntmps82
  go_wp2_with fail
  refine (sets_any n a cap fs m ae ce es ok _ φ hS0.out.fz s se).mono ?_
  rintro e w1 ⟨rs, φ1, a5, c5, rfl, hi1, s5, p5, o5⟩
  have hI1 := Lib.hid (hi0.out.call hi1)
  have hK1 := Lib.hid (hS0.out.k.callB hi1.bel)
  have hfd : Hid (lres (rs.find? (fun l => (firstS fs es n m rec l).2)) = (l, b)) := Lib.hid (by rw [least_ref ok.out hrl.out p5 o5]; exact hq.out)
  have hset : Hid (∀ l ∈ rs, l.Pairwise (· < ·) ∧ SetG n l) := Lib.hid (fun l hl => by
    have := p5.mem_iff.1 hl
    unfold setsK at this
    obtain ⟨v, _, rfl⟩ := List.mem_map.1 this
    exact ⟨setK_sorted v n, setK_G v n⟩)
  clear hi1 hi0 hS0 p5 o5
  obtain ⟨R, hR⟩ : ∃ k, Hid (rs.length = k) := ⟨_, Lib.hid rfl⟩
  rw [hR.out]
  have hRl := s5.capn
  have hRm := s5.capm
  rw [hR.out] at hRl
  unfold maxLen at hRm
  generalize hbx : w.heap.size = bx at *
  replace hbx := Lib.hid hbx
  go_wp2
  go_loopw [13] (fun i wr => ∃ k : Nat, k ≤ R ∧ i = .int .i64 k ∧ Hid (∀ i, i < k → (firstS fs es n m rec (rs.getD i [])).2 = false) ∧ Hid (Inv bx w φ φ1 wr ∧ Blk wr bx #[.slice a n cap, .slice ae m ce] 25)) (fun i _ => R - (intOf i).toNat)
  case atStart => exact ⟨0, Nat.zero_le _, rfl, Lib.hid (fun i hi => by omega), Lib.hid ⟨hI1.out, hK1.out⟩⟩
  case round =>
    clear hI1 hK1
    obtain ⟨k, hk, rfl, hok, hS⟩ := hrel
    by_cases hlt : k < R
    · obtain ⟨b6, o6, rfl, f6⟩ := s5.lists hR hlt
      obtain ⟨a6, c6, s6, f6⟩ := f6 k hlt
      have d6 := (f6 wr hS.out.1.fz).2
      obtain ⟨g1, g2⟩ := hset.out (rs.getD k []) (by rw [getD_elem0 _ _ _ (by rw [hR.out]; exact hlt)]; exact List.getElem_mem _)
      have HY := Lib.hid (fun h : (firstS fs es n m rec (rs.getD k [])).2 = true => find_at (p := fun l => (firstS fs es n m rec l).2) (by rw [hR.out]; exact hlt) hok.out h)
      have HN : Hid ((firstS fs es n m rec (rs.getD k [])).2 = false → ∀ i, i < k + 1 → (firstS fs es n m rec (rs.getD i [])).2 = false) := Lib.hid (fun h i hi => by
        by_cases e : i = k
        · subst e; exact h
        · exact hok.out i (by omega))
      clear f6
      generalize rs.getD k [] = z at *
      obtain ⟨nz, hnz⟩ : ∃ j, Hid (z.length = j) := ⟨_, Lib.hid rfl⟩
      rw [hnz.out] at d6
      have hzl := g2.len
      rw [hnz.out] at hzl
      have hzm : Hid (∀ k ∈ z, 0 ≤ k ∧ k < (n : Int)) := Lib.hid g2.mem
      have G1 := Lib.hid g1
      obtain ⟨q1, q2, hq12⟩ : ∃ q1 q2, Hid (firstS fs es n m rec z = (q1, q2)) := ⟨_, _, Lib.hid rfl⟩
      have p0 : wr.cell? ⟨bx, 0, none⟩ = some (.slice a n cap) := hS.out.2.cell 0
      have p1 : wr.cell? ⟨bx, 1, none⟩ = some (.slice ae m ce) := hS.out.2.cell 1
      clear g1 g2
      go_wp2_with fail
      refine (Rfirst_any n a cap fs m ae ce es wr φ1 hS.out.1.fz (s.mono hS.out.1.le) (se.mono hS.out.1.le) ok.out a1 c1 rec (sr.mono hS.out.1.le) hrl nz a6 c6 z s6 hnz (by omega) hzm G1.out hq12).mono ?_
      rintro e w5 ⟨φ5, a7, c7, rfl, hi5, s7⟩
      have hS5 := Lib.hid (And.intro (hS.out.1.callB hi5.bel) (hS.out.2.callB hi5.bel))
      clear hi5 s7 p0 p1 d6
      cases q2 with
      | true =>
        have H2 := Lib.hid (HY.out (by rw [hq12.out]))
        go_wp2
        go_ret2
        have h := hfd.out
        rw [H2.out] at h
        obtain ⟨rfl, rfl⟩ := Prod.mk.inj h
        exact ⟨φ1, a6, c6, congrArg (fun k => Ending.returned (.tuple #[.slice a6 k c6, .bool true])) hnz.out.symm, by rw [hbx.out]; exact hS5.out.1, s6⟩
      | false =>
        have H2 := Lib.hid (HN.out (by rw [hq12.out]))
        go_wp2
        go_roundw
        case rel => exact ⟨k + 1, by omega, by go_num, H2, hS5⟩
        case measure => (simp [intOf] <;> omega)
    · obtain rfl : k = R := by omega
      have h := hfd.out
      rw [find_none (d := []) (by rw [hR.out]; exact hok.out)] at h
      have H := Lib.hid h
      clear h
      go_wp2
      go_ret2
      obtain ⟨rfl, rfl⟩ := Prod.mk.inj H.out
      exact ⟨φ1, none, 0, rfl, by rw [hbx.out]; exact hS.out.1, SlV.empty _⟩
end Go.Proofs.YtkfmadeeobalaaaDoor

namespace Go.Proofs.YtkfmadeeobalaaaDoor
open Go.RowKit
set_option linter.unusedVariables false
/-- All records with valid values. -/
def allR (fs : List Fld) (n : Nat) : List (List Int) := comps fs (List.replicate n true) n 0 (List.replicate n 0)
/-- A record fails an edit, and no other one that is left. -/
def onlyB (es : List Edt) (n m : Nat) (left : List Bool) (i : Nat) (r : List Int) : Bool := hitB (es.getD i edt0).2 r n && (List.range m).all (fun k => decide (k = i) || !(left.getD k false && hitB (es.getD k edt0).2 r n))
def needB (fs : List Fld) (es : List Edt) (n m : Nat) (left : List Bool) (i : Nat) : Bool := (allR fs n).any (onlyB es n m left i)
/-- What is left behind the first i edits. -/
def leftK (fs : List Fld) (es : List Edt) (n m : Nat) : Nat → List Bool
  | 0 => List.replicate m true
  | i + 1 => if needB fs es n m (leftK fs es n m i) i = true then leftK fs es n m i else (leftK fs es n m i).set i false
theorem leftK_len (fs : List Fld) (es : List Edt) (n m : Nat) : ∀ i, (leftK fs es n m i).length = m
  | 0 => by simp [leftK]
  | i + 1 => by rw [leftK]; split <;> simp [leftK_len fs es n m i]
theorem leftK_at {fs : List Fld} {es : List Edt} {n m : Nat} : ∀ {i k : Nat}, i ≤ k → k < m → (leftK fs es n m i).getD k false = true
  | 0, k, _, hk => by simp [leftK, List.getD_eq_getElem?_getD, hk]
  | i + 1, k, hi, hk => by
    rw [leftK]
    split
    · exact leftK_at (by omega) hk
    · rw [List.getD_eq_getElem?_getD, List.getElem?_set_ne (by omega), ← List.getD_eq_getElem?_getD]
      exact leftK_at (by omega) hk
def keptL (fs : List Fld) (es : List Edt) (n m k : Nat) : List Int := ((List.range k).filter (fun i : Nat => needB fs es n m (leftK fs es n m i) i)).map (fun i : Nat => (i : Int))
def dropL (fs : List Fld) (es : List Edt) (n m k : Nat) : List Int := ((List.range k).filter (fun i : Nat => !needB fs es n m (leftK fs es n m i) i)).map (fun i : Nat => (i : Int))
section
variable {fs : List Fld} {es : List Edt} {n m k : Nat}
theorem keptL_t (h : needB fs es n m (leftK fs es n m k) k = true) : keptL fs es n m (k + 1) = keptL fs es n m k ++ [(k : Int)] := by
  have e : List.filter (fun i : Nat => needB fs es n m (leftK fs es n m i) i) [k] = [k] := by rw [List.filter_cons_of_pos (by exact h)]; rfl
  unfold keptL; rw [List.range_succ, List.filter_append, List.map_append, e]; rfl
theorem keptL_f (h : needB fs es n m (leftK fs es n m k) k = false) : keptL fs es n m (k + 1) = keptL fs es n m k := by
  have e : List.filter (fun i : Nat => needB fs es n m (leftK fs es n m i) i) [k] = [] := by rw [List.filter_cons_of_neg (by rw [h]; simp)]; rfl
  unfold keptL; rw [List.range_succ, List.filter_append, List.map_append, e]; simp
theorem dropL_t (h : needB fs es n m (leftK fs es n m k) k = false) : dropL fs es n m (k + 1) = dropL fs es n m k ++ [(k : Int)] := by
  have e : List.filter (fun i : Nat => !needB fs es n m (leftK fs es n m i) i) [k] = [k] := by rw [List.filter_cons_of_pos (by simp [h])]; rfl
  unfold dropL; rw [List.range_succ, List.filter_append, List.map_append, e]; rfl
theorem dropL_f (h : needB fs es n m (leftK fs es n m k) k = true) : dropL fs es n m (k + 1) = dropL fs es n m k := by
  have e : List.filter (fun i : Nat => !needB fs es n m (leftK fs es n m i) i) [k] = [] := by rw [List.filter_cons_of_neg (by simp [h])]; rfl
  unfold dropL; rw [List.range_succ, List.filter_append, List.map_append, e]; simp
theorem keptL_len : (keptL fs es n m k).length ≤ k := by
  unfold keptL; rw [List.length_map]; exact Nat.le_trans (List.length_filter_le _ _) (by simp)
theorem dropL_len : (dropL fs es n m k).length ≤ k := by
  unfold dropL; rw [List.length_map]; exact Nat.le_trans (List.length_filter_le _ _) (by simp)
theorem mem_keptL {i : Nat} : (i : Int) ∈ keptL fs es n m k ↔ i < k ∧ needB fs es n m (leftK fs es n m i) i = true := by
  unfold keptL
  rw [List.mem_map]
  constructor
  · rintro ⟨j, hj, e⟩
    obtain rfl : j = i := by omega
    rw [List.mem_filter, List.mem_range] at hj
    exact hj
  · intro h
    exact ⟨i, by rw [List.mem_filter, List.mem_range]; exact h, rfl⟩
end
/-- How many of the edits that are left a record fails. -/
def cntK (fs : List Fld) (es : List Edt) (n m i : Nat) (r : List Int) : Nat := ((List.range m).filter (fun k => (leftK fs es n m i).getD k false && hitB (es.getD k edt0).2 r n)).length
theorem cntK_zero (fs : List Fld) (es : List Edt) (n m : Nat) (r : List Int) : cntK fs es n m 0 r = (failL es r n m).length := by
  unfold cntK failL
  rw [List.length_map]
  congr 1
  apply List.filter_congr
  intro k hk
  have := leftK_at (fs := fs) (es := es) (n := n) (m := m) (i := 0) (k := k) (Nat.zero_le _) (List.mem_range.1 hk)
  rw [this, Bool.true_and]
theorem len_one {α : Type} {l : List α} {p : α → Bool} {x : α} (hn : l.Nodup) (hx : x ∈ l) (hp : p x = true) : (l.filter p).length = 1 ↔ ∀ y ∈ l, y ≠ x → p y = false := by
  constructor
  · intro h y hy hne
    cases hq : p y with
    | false => rfl
    | true =>
      obtain ⟨z, hz⟩ := List.length_eq_one_iff.1 h
      have h1 : x ∈ l.filter p := List.mem_filter.2 ⟨hx, hp⟩
      have h2 : y ∈ l.filter p := List.mem_filter.2 ⟨hy, hq⟩
      rw [hz] at h1 h2
      rw [List.mem_singleton] at h1 h2
      exact absurd (h2.trans h1.symm) hne
  · intro h
    have e : l.filter p = [x] := by
      have hnf : (l.filter p).Nodup := List.Pairwise.filter p hn
      have hm : x ∈ l.filter p := List.mem_filter.2 ⟨hx, hp⟩
      have hall : ∀ y ∈ l.filter p, y = x := fun y hy => by
        obtain ⟨h1, h2⟩ := List.mem_filter.1 hy
        by_cases e : y = x
        · exact e
        · rw [h y h1 e] at h2; cases h2
      match hl : l.filter p, hnf, hm, hall with
      | [], _, hm, _ => simp at hm
      | [y], _, _, hall => rw [hall y (by simp)]
      | y :: z :: t, hnf, _, hall =>
        have e1 := hall y (by simp)
        have e2 := hall z (by simp)
        rw [List.nodup_cons] at hnf
        exact absurd (by rw [e1, ← e2]; simp) hnf.1
    rw [e]; rfl
theorem only_iff {fs : List Fld} {es : List Edt} {n m i : Nat} (hi : i < m) {r : List Int} (hh : hitB (es.getD i edt0).2 r n = true) : onlyB es n m (leftK fs es n m i) i r = true ↔ cntK fs es n m i r = 1 := by
  have hl := leftK_at (fs := fs) (es := es) (n := n) (m := m) (i := i) (k := i) (Nat.le_refl _) hi
  unfold onlyB cntK
  rw [hh, Bool.true_and, List.all_eq_true, len_one (x := i) List.nodup_range (List.mem_range.2 hi) (by rw [hl, hh]; rfl)]
  constructor
  · intro h k hk hne
    have := h k hk
    simp only [Bool.or_eq_true, decide_eq_true_eq, Bool.not_eq_true'] at this
    rcases this with e | e
    · exact absurd e hne
    · exact e
  · intro h k hk
    by_cases e : k = i
    · simp [e]
    · have := h k hk e
      simp only [Bool.or_eq_true, decide_eq_true_eq, Bool.not_eq_true']
      exact .inr this
theorem need_iff {fs : List Fld} {es : List Edt} {n m i : Nat} (hi : i < m) : needB fs es n m (leftK fs es n m i) i = true ↔ ∃ r ∈ allR fs n, hitB (es.getD i edt0).2 r n = true ∧ cntK fs es n m i r = 1 := by
  unfold needB
  rw [List.any_eq_true]
  constructor
  · rintro ⟨r, hr, h⟩
    have hh : hitB (es.getD i edt0).2 r n = true := by
      unfold onlyB at h
      rw [Bool.and_eq_true] at h
      exact h.1
    exact ⟨r, hr, hh, (only_iff hi hh).1 h⟩
  · rintro ⟨r, hr, hh, h⟩
    exact ⟨r, hr, (only_iff hi hh).2 h⟩
theorem filter_drop {l : List Nat} {p q : Nat → Bool} {i : Nat} (hn : l.Nodup) (hi : i ∈ l) (hp : p i = true) (hq : q i = false) (h : ∀ k, k ≠ i → q k = p k) : (l.filter q).length + 1 = (l.filter p).length := by
  induction l with
  | nil => simp at hi
  | cons x l ih =>
    rw [List.nodup_cons] at hn
    by_cases e : x = i
    · subst e
      rw [List.filter_cons_of_pos hp, List.filter_cons_of_neg (by rw [hq]; simp), List.length_cons]
      congr 2
      apply List.filter_congr
      intro k hk
      exact h k (fun e => hn.1 (e ▸ hk))
    · have hi2 : i ∈ l := by rcases List.mem_cons.1 hi with e2 | e2; exact absurd e2.symm e; exact e2
      have := ih hn.2 hi2
      rw [List.filter_cons, List.filter_cons, h x e]
      split
      · rw [List.length_cons, List.length_cons, this]
      · exact this
theorem filter_same {l : List Nat} {p q : Nat → Bool} (h : ∀ k ∈ l, q k = p k) : (l.filter q).length = (l.filter p).length := by
  rw [List.filter_congr h]
theorem cntK_next {fs : List Fld} {es : List Edt} {n m i : Nat} (hi : i < m) (hnd : needB fs es n m (leftK fs es n m i) i = false) (r : List Int) :
    cntK fs es n m (i + 1) r + (if hitB (es.getD i edt0).2 r n = true then 1 else 0) = cntK fs es n m i r := by
  have hl := leftK_at (fs := fs) (es := es) (n := n) (m := m) (i := i) (k := i) (Nat.le_refl _) hi
  have hlen := leftK_len fs es n m i
  unfold cntK
  rw [leftK, if_neg (by rw [hnd]; simp)]
  have hset : ∀ k, ((leftK fs es n m i).set i false).getD k false = if k = i then false else (leftK fs es n m i).getD k false := fun k => by
    rw [List.getD_eq_getElem?_getD, List.getElem?_set, List.getD_eq_getElem?_getD]
    by_cases e : i = k
    · subst e; simp [hlen, hi]
    · rw [if_neg e, if_neg (fun q => e q.symm)]
  by_cases hh : hitB (es.getD i edt0).2 r n = true
  · rw [if_pos hh]
    refine filter_drop (i := i) List.nodup_range (List.mem_range.2 hi) (by rw [hl, hh]; rfl) (by rw [hset, if_pos rfl]; rfl) (fun k hk => by rw [hset, if_neg hk])
  · rw [if_neg hh, Nat.add_zero]
    refine filter_same (fun k _ => ?_)
    rw [hset]
    by_cases e : k = i
    · subst e; rw [if_pos rfl, Bool.eq_false_iff.2 hh]; simp
    · rw [if_neg e]
theorem leftK_keep {fs : List Fld} {es : List Edt} {n m i : Nat} (hnd : needB fs es n m (leftK fs es n m i) i = true) : leftK fs es n m (i + 1) = leftK fs es n m i := by rw [leftK, if_pos hnd]
theorem leftK_drop {fs : List Fld} {es : List Edt} {n m i : Nat} (hnd : needB fs es n m (leftK fs es n m i) i = false) : leftK fs es n m (i + 1) = (leftK fs es n m i).set i false := by rw [leftK, if_neg (by rw [hnd]; simp)]
/-- A record passes the edits that are left. -/
def posB (fs : List Fld) (es : List Edt) (n m : Nat) (left : List Bool) : Bool := (allR fs n).any (fun r => (List.range m).all (fun k => !(left.getD k false && hitB (es.getD k edt0).2 r n)))
/-- Where no record passes what is left, an edit is needed just if without it one passes. -/
theorem pos_need {fs : List Fld} {es : List Edt} {n m i : Nat} {left : List Bool} (hlen : left.length = m) (hi : i < m) (h0 : posB fs es n m left = false) : posB fs es n m (left.set i false) = needB fs es n m left i := by
  have hset : ∀ k, (left.set i false).getD k false = if k = i then false else left.getD k false := fun k => by
    rw [List.getD_eq_getElem?_getD, List.getElem?_set, List.getD_eq_getElem?_getD]
    by_cases e : i = k
    · subst e; simp [hlen, hi]
    · rw [if_neg e, if_neg (fun q => e q.symm)]
  rw [Bool.eq_iff_iff]
  unfold posB needB
  rw [List.any_eq_true, List.any_eq_true]
  constructor
  · rintro ⟨r, hr, h⟩
    rw [List.all_eq_true] at h
    refine ⟨r, hr, ?_⟩
    unfold onlyB
    rw [Bool.and_eq_true, List.all_eq_true]
    refine ⟨?_, fun k hk => ?_⟩
    · cases hq : hitB (es.getD i edt0).2 r n with
      | true => rfl
      | false =>
        exfalso
        unfold posB at h0
        rw [List.any_eq_false] at h0
        have := h0 r hr
        apply this
        rw [List.all_eq_true]
        intro k hk
        have h1 := h k hk
        rw [hset] at h1
        by_cases e : k = i
        · subst e; rw [hq]; simp
        · rw [if_neg e] at h1; exact h1
    · have h1 := h k hk
      rw [hset] at h1
      by_cases e : k = i
      · simp [e]
      · rw [if_neg e] at h1; rw [h1]; simp
  · rintro ⟨r, hr, h⟩
    unfold onlyB at h
    rw [Bool.and_eq_true, List.all_eq_true] at h
    refine ⟨r, hr, ?_⟩
    rw [List.all_eq_true]
    intro k hk
    rw [hset]
    by_cases e : k = i
    · rw [if_pos e]; rfl
    · rw [if_neg e]
      have := h.2 k hk
      simpa [e] using this
theorem pos_left {fs : List Fld} {es : List Edt} {n m : Nat} (h0 : posB fs es n m (List.replicate m true) = false) : ∀ i, i ≤ m → posB fs es n m (leftK fs es n m i) = false
  | 0, _ => h0
  | i + 1, hi => by
    have ih := pos_left h0 i (by omega)
    cases hnd : needB fs es n m (leftK fs es n m i) i with
    | true => rw [leftK_keep hnd]; exact ih
    | false => rw [leftK_drop hnd, pos_need (leftK_len fs es n m i) (by omega) ih]; exact hnd
theorem pos_all {fs : List Fld} {es : List Edt} {n m : Nat} : posB fs es n m (List.replicate m true) = (allR fs n).any (fun r => decide ((failL es r n m).length = 0)) := by
  unfold posB
  congr 1
  funext r
  rw [Bool.eq_iff_iff, List.all_eq_true, decide_eq_true_iff]
  unfold failL
  rw [List.length_map, List.length_eq_zero_iff, List.filter_eq_nil_iff]
  refine forall_congr' fun k => forall_congr' fun hk => ?_
  simp [List.getD_eq_getElem?_getD, List.mem_range.1 hk]
end Go.Proofs.YtkfmadeeobalaaaDoor
