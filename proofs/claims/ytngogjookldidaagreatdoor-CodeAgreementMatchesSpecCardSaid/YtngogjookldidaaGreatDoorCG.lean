/- Alpha: numbers' bounds and the state of the program's walk. Alpha: the state while what is observed is summed. Conditions: none beyond what the claim form gives. -/
import Derived.Test.YtngogjookldidaaGreatDoorCF
import Derived.Test.YtngogjookldidaaGreatDoorNC
import Derived.Test.YtngogjookldidaaGreatDoorPD
namespace Go.Proofs.YtngogjookldidaaGreatDoor
open Go.RowKit
set_option linter.unusedVariables false
set_option linter.unusedSimpArgs false
def mAl : Nat := p10 5000
theorem mAl_len : LenB mAl := lenB_p (k := 1000) (by decide) (by decide)
theorem mAl_div : Hid (DivOk mAl) := Lib.hid (div_any mAl_len)
theorem p10_up {j k : Nat} (h : j ≤ k) : p10 j ≤ p10 k := p10_mono h
theorem mAl_2 : p10 2000 ≤ mAl := p10_up (show 2000 ≤ 5000 by omega)
theorem mAl_small {n : Nat} (h : n ≤ 10000000000000) : n ≤ mAl := Nat.le_trans h (Nat.le_trans p10_13 mAl_2)
theorem p10_addE (i j : Nat) : p10 i * p10 j = p10 (i + j) := (Nat.pow_add 10 i j).symm
theorem p10_dbl (k : Nat) : p10 k + p10 k ≤ p10 (k + 1) := by
  unfold p10
  rw [Nat.pow_succ]
  generalize 10 ^ k = x
  omega
theorem mAl_N : p10 2000 * p10 2000 + p10 2000 * p10 2000 ≤ mAl ∧ p10 2000 * p10 2000 ≤ mAl := by
  rw [p10_addE 2000 2000]
  have h : p10 (2000 + 2000) + p10 (2000 + 2000) ≤ mAl := Nat.le_trans (p10_dbl (2000 + 2000)) (p10_up (show 2000 + 2000 + 1 ≤ 5000 by omega))
  exact ⟨h, Nat.le_trans (Nat.le_add_right _ _) h⟩
/-- The tree, two maps and a result's cell. -/
structure AlS (w0 : World) (φ : Phi) (bt : Nat) (a : Option Addr) (c n m1 m2 : Nat) (l : List Nod) (b6 r1 r2 : Nat) (fA fW : Int → Option Int) (wr : World) : Prop where
  bel : Below w0.heap.size w0 wr
  fz : Fz φ wr
  tr : TreeW wr bt a c n m1 m2 (atF l) (lvF l)
  k : Blk wr b6 #[.string ⟨#[]⟩, .string ⟨#[]⟩] 32
  ma : MapW wr r1 fA
  mw : MapW wr r2 fW
  lo : w0.heap.size ≤ b6 ∧ w0.heap.size ≤ r1 ∧ w0.heap.size ≤ r2
  ne : b6 ≠ r1 ∧ b6 ≠ r2 ∧ r1 ≠ r2
  nt : (bt ≠ r1 ∧ m1 ≠ r1 ∧ m2 ≠ r1) ∧ bt ≠ r2 ∧ m1 ≠ r2 ∧ m2 ≠ r2
  fr : φ b6 = none ∧ φ r1 = none ∧ φ r2 = none
/-- .. and the map of one case. -/
structure AlI (w0 : World) (φ : Phi) (bt : Nat) (a : Option Addr) (c n m1 m2 : Nat) (l : List Nod) (b6 r1 r2 : Nat) (fA fW : Int → Option Int) (r3 : Nat) (fO : Int → Option Int) (wr : World) : Prop where
  st : AlS w0 φ bt a c n m1 m2 l b6 r1 r2 fA fW wr
  mo : MapW wr r3 fO
  lo : w0.heap.size ≤ r3
  ne : b6 ≠ r3 ∧ r1 ≠ r3 ∧ r2 ≠ r3
  nt : bt ≠ r3 ∧ m1 ≠ r3 ∧ m2 ≠ r3
  fr : φ r3 = none
section
variable {w0 wr w' : World} {φ φ' : Phi} {bt : Nat} {a : Option Addr} {c n m1 m2 : Nat} {l : List Nod} {b6 r1 r2 r3 : Nat} {fA fW fO fX : Int → Option Int}
theorem AlS.callB (h : AlS w0 φ bt a c n m1 m2 l b6 r1 r2 fA fW wr) (hb : Below wr.heap.size wr w') : AlS w0 φ bt a c n m1 m2 l b6 r1 r2 fA fW w' :=
  ⟨h.bel.trans (hb.mono h.bel.size), h.fz.below hb, h.tr.callB hb, h.k.callB hb, h.ma.callB hb, h.mw.callB hb, h.lo, h.ne, h.nt, h.fr⟩
theorem AlS.call (h : AlS w0 φ bt a c n m1 m2 l b6 r1 r2 fA fW wr) (hi : Inv wr.heap.size wr φ φ' w') : AlS w0 φ' bt a c n m1 m2 l b6 r1 r2 fA fW w' :=
  ⟨h.bel.trans (hi.bel.mono h.bel.size), hi.fz, h.tr.callB hi.bel, h.k.callB hi.bel, h.ma.callB hi.bel, h.mw.callB hi.bel, h.lo, h.ne, h.nt, (hi.new _ h.k.lt).trans h.fr.1, (hi.new _ h.ma.lt).trans h.fr.2.1, (hi.new _ h.mw.lt).trans h.fr.2.2⟩
theorem AlS.setA (h : AlS w0 φ bt a c n m1 m2 l b6 r1 r2 fA fW wr) (o : Obj) (hm : MapW (setMap wr r1 o) r1 fX) : AlS w0 φ bt a c n m1 m2 l b6 r1 r2 fX fW (setMap wr r1 o) :=
  have g := setMap_grown wr r1 o
  ⟨Below_grown h.bel g h.lo.2.1, h.fz.grownC h.fr.2.1 g, h.tr.grownC g h.nt.1.1 h.nt.1.2.1 h.nt.1.2.2, Blk.grown h.k g h.ne.1, hm, h.mw.grown g h.ne.2.2.symm, h.lo, h.ne, h.nt, h.fr⟩
theorem AlS.setW (h : AlS w0 φ bt a c n m1 m2 l b6 r1 r2 fA fW wr) (o : Obj) (hm : MapW (setMap wr r2 o) r2 fX) : AlS w0 φ bt a c n m1 m2 l b6 r1 r2 fA fX (setMap wr r2 o) :=
  have g := setMap_grown wr r2 o
  ⟨Below_grown h.bel g h.lo.2.2, h.fz.grownC h.fr.2.2 g, h.tr.grownC g h.nt.2.1 h.nt.2.2.1 h.nt.2.2.2, Blk.grown h.k g h.ne.2.1, h.ma.grown g h.ne.2.2, hm, h.lo, h.ne, h.nt, h.fr⟩
theorem AlS.putW (h : AlS w0 φ bt a c n m1 m2 l b6 r1 r2 fA fW wr) (k x : Int) : ∃ o, (Instr.mapUpdate 53 (.map (some r2)) (.int .i64 k) (.int .i64 x)).run Tryz.prog wr = .ok () (setMap wr r2 o) ∧ AlS w0 φ bt a c n m1 m2 l b6 r1 r2 fA (updF fW k x) (setMap wr r2 o) := by
  obtain ⟨o, p, q⟩ := h.mw.put k x
  exact ⟨o, p 0, h.setW o (q _ (setMap_same o h.mw.lt))⟩
theorem AlI.callB (h : AlI w0 φ bt a c n m1 m2 l b6 r1 r2 fA fW r3 fO wr) (hb : Below wr.heap.size wr w') : AlI w0 φ bt a c n m1 m2 l b6 r1 r2 fA fW r3 fO w' := ⟨h.st.callB hb, h.mo.callB hb, h.lo, h.ne, h.nt, h.fr⟩
theorem AlI.putA (h : AlI w0 φ bt a c n m1 m2 l b6 r1 r2 fA fW r3 fO wr) (k x : Int) : ∃ o, (Instr.mapUpdate 53 (.map (some r1)) (.int .i64 k) (.int .i64 x)).run Tryz.prog wr = .ok () (setMap wr r1 o) ∧ AlI w0 φ bt a c n m1 m2 l b6 r1 r2 (updF fA k x) fW r3 fO (setMap wr r1 o) := by
  obtain ⟨o, p, q⟩ := h.st.ma.put k x
  exact ⟨o, p 0, h.st.setA o (q _ (setMap_same o h.st.ma.lt)), h.mo.grown (setMap_grown wr r1 o) h.ne.2.1.symm, h.lo, h.ne, h.nt, h.fr⟩
theorem AlI.putO (h : AlI w0 φ bt a c n m1 m2 l b6 r1 r2 fA fW r3 fO wr) (k x : Int) : ∃ o, (Instr.mapUpdate 53 (.map (some r3)) (.int .i64 k) (.int .i64 x)).run Tryz.prog wr = .ok () (setMap wr r3 o) ∧ AlI w0 φ bt a c n m1 m2 l b6 r1 r2 fA fW r3 (updF fO k x) (setMap wr r3 o) := by
  obtain ⟨o, p, q⟩ := h.mo.put k x
  have g := setMap_grown wr r3 o
  exact ⟨o, p 0, ⟨Below_grown h.st.bel g h.lo, h.st.fz.grownC h.fr g, h.st.tr.grownC g h.nt.1 h.nt.2.1 h.nt.2.2, Blk.grown h.st.k g h.ne.1, h.st.ma.grown g h.ne.2.1, h.st.mw.grown g h.ne.2.2, h.st.lo, h.st.ne, h.st.nt, h.st.fr⟩, q _ (setMap_same o h.mo.lt), h.lo, h.ne, h.nt, h.fr⟩
/-- A new map for a case. -/
theorem AlS.own (h : AlS w0 φ bt a c n m1 m2 l b6 r1 r2 fA fW wr) : AlI w0 φ bt a c n m1 m2 l b6 r1 r2 fA fW wr.heap.size (fun _ => none) (wr.alloc (.map #[] 0)) := by
  have hm : MapW (wr.alloc (.map #[] 0)) wr.heap.size (fun _ => none) := ⟨_, [], heap_alloc_new wr _, MapO.empty, fun _ => rfl⟩
  have h1 := h.k.lt
  have h2 := h.ma.lt
  have h3 := h.mw.lt
  have h4 := h.tr.blk.lt
  have h5 := h.tr.at_.lt
  have h6 := h.tr.lev.lt
  exact ⟨h.callB ((Below.refl _ _).alloc (Nat.le_refl _) _), hm, h.bel.size, ⟨by omega, by omega, by omega⟩, ⟨by omega, by omega, by omega⟩, h.fz.new_none (Nat.le_refl _)⟩
/-- Both maps are made. -/
theorem AlS.start (hb : Below w0.heap.size w0 wr) (hf : Fz φ wr) (ht : TreeW wr bt a c n m1 m2 (atF l) (lvF l)) (hk : Blk wr b6 #[.string ⟨#[]⟩, .string ⟨#[]⟩] 32) (hl : w0.heap.size ≤ b6) (hn : φ b6 = none) : AlS w0 φ bt a c n m1 m2 l b6 wr.heap.size (wr.heap.size + 1) (fun _ => none) (fun _ => none) ((wr.alloc (.map #[] 0)).alloc (.map #[] 0)) := by
  have hm : MapW (wr.alloc (.map #[] 0)) wr.heap.size (fun _ => none) := ⟨_, [], heap_alloc_new wr _, MapO.empty, fun _ => rfl⟩
  have hm2 : MapW ((wr.alloc (.map #[] 0)).alloc (.map #[] 0)) (wr.alloc (.map #[] 0)).heap.size (fun _ => none) := ⟨_, [], heap_alloc_new _ _, MapO.empty, fun _ => rfl⟩
  have e1 : (wr.alloc (.map #[] 0)).heap.size = wr.heap.size + 1 := by simp
  rw [e1] at hm2
  have hB : Below wr.heap.size wr ((wr.alloc (.map #[] 0)).alloc (.map #[] 0)) := ((Below.refl _ _).alloc (Nat.le_refl _) _).alloc (by rw [e1]; omega) _
  have h1 := hk.lt
  have h4 := ht.blk.lt
  have h5 := ht.at_.lt
  have h6 := ht.lev.lt
  have h7 := hb.size
  exact ⟨hb.trans (hB.mono hb.size), hf.below hB, ht.callB hB, hk.callB hB, hm.callB ((Below.refl _ _).alloc (Nat.le_refl _) _), hm2, ⟨hl, by omega, by omega⟩, ⟨by omega, by omega, by omega⟩, ⟨⟨by omega, by omega, by omega⟩, by omega, by omega, by omega⟩, hn, hf.new_none (Nat.le_refl _), hf.new_none (by omega)⟩
end
theorem cnA_snoc (A : List Int) (x c : Int) : cnA (A ++ [x]) c = cnA A c + if x = c then 1 else 0 := cntP_snoc _ _ _
theorem coF_step (A : List Int) (x : Int) : updF (coF A) x ((cnA A x : Int) + 1) = coF (A ++ [x]) := by
  funext c
  unfold updF coF
  rw [cnA_snoc]
  by_cases h : c = x
  · subst h
    rw [if_pos rfl, if_pos rfl]
    unfold cnF
    rw [if_neg (by omega)]
    congr 1
    try omega
  · rw [if_neg h, if_neg (fun e => h e.symm), Nat.add_zero]
theorem coF_getD (A : List Int) (x : Int) : (coF A x).getD 0 = (cnA A x : Int) := cnF_getD _
theorem coF_nil : coF [] = fun _ => none := by funext c; rfl
theorem wiF_nil (l : List Nod) (tr : Bool) : wiF l tr [] = fun _ => none := by funext c; rfl
end Go.Proofs.YtngogjookldidaaGreatDoor

namespace Go.Proofs.YtngogjookldidaaGreatDoor
open Go.RowKit
set_option linter.unusedVariables false
set_option linter.unusedSimpArgs false
/-- A box, and a range over the second map. -/
structure AlR (w0 : World) (φ : Phi) (bt : Nat) (a : Option Addr) (c n m1 m2 : Nat) (l : List Nod) (b6 r1 r2 : Nat) (fA fW : Int → Option Int) (bx : Nat) (S0 T0 : ByteArray) (ri : Nat) (S : List Int) (wr : World) : Prop where
  st : AlS w0 φ bt a c n m1 m2 l b6 r1 r2 fA fW wr
  k : Blk wr bx #[.string S0, .string T0] 32
  rg : RngF wr r2 ri fW S
  lo : w0.heap.size ≤ bx ∧ w0.heap.size ≤ ri
  ne : b6 ≠ bx ∧ r1 ≠ bx ∧ r2 ≠ bx ∧ b6 ≠ ri ∧ r1 ≠ ri ∧ bx ≠ ri
  nt : (bt ≠ bx ∧ m1 ≠ bx ∧ m2 ≠ bx) ∧ bt ≠ ri ∧ m1 ≠ ri ∧ m2 ≠ ri
  fr : φ bx = none ∧ φ ri = none
section
variable {w0 wr w' : World} {φ φ' : Phi} {bt : Nat} {a : Option Addr} {c n m1 m2 : Nat} {l : List Nod} {b6 r1 r2 bx ri : Nat} {S0 T0 S1 T1 : ByteArray} {fA fW : Int → Option Int} {S S' : List Int}
theorem AlS.grown (h : AlS w0 φ bt a c n m1 m2 l b6 r1 r2 fA fW wr) {g : Nat} (hg : wr.grownBy w' (some g)) (hl : w0.heap.size ≤ g) (hf : φ g = none) (h6 : b6 ≠ g) (h1 : r1 ≠ g) (h2 : r2 ≠ g) (ht : bt ≠ g ∧ m1 ≠ g ∧ m2 ≠ g) : AlS w0 φ bt a c n m1 m2 l b6 r1 r2 fA fW w' :=
  ⟨Below_grown h.bel hg hl, h.fz.grownC hf hg, h.tr.grownC hg ht.1 ht.2.1 ht.2.2, Blk.grown h.k hg h6, h.ma.grown hg h1, h.mw.grown hg h2, h.lo, h.ne, h.nt, h.fr⟩
theorem AlR.callB (h : AlR w0 φ bt a c n m1 m2 l b6 r1 r2 fA fW bx S0 T0 ri S wr) (hb : Below wr.heap.size wr w') : AlR w0 φ bt a c n m1 m2 l b6 r1 r2 fA fW bx S0 T0 ri S w' := ⟨h.st.callB hb, h.k.callB hb, h.rg.callB hb, h.lo, h.ne, h.nt, h.fr⟩
theorem AlR.next (h : AlR w0 φ bt a c n m1 m2 l b6 r1 r2 fA fW bx S0 T0 ri S wr) (hg : wr.grownBy w' (some ri)) (hR : RngF w' r2 ri fW S') : AlR w0 φ bt a c n m1 m2 l b6 r1 r2 fA fW bx S0 T0 ri S' w' :=
  ⟨h.st.grown hg h.lo.2 h.fr.2 h.ne.2.2.2.1 h.ne.2.2.2.2.1 (fun e => h.rg.lt.2.2 (by cases e; rfl)) h.nt.2, Blk.grown h.k hg h.ne.2.2.2.2.2, hR, h.lo, h.ne, h.nt, h.fr⟩
theorem AlR.set (h : AlR w0 φ bt a c n m1 m2 l b6 r1 r2 fA fW bx S0 T0 ri S wr) : AlR w0 φ bt a c n m1 m2 l b6 r1 r2 fA fW bx S1 T1 ri S ((wr.setCell ⟨bx, 0, none⟩ (.string S1)).setCell ⟨bx, 1, none⟩ (.string T1)) := by
  have g1 := grown_setC wr bx 0 (.string S1)
  have g2 := grown_setC (wr.setCell ⟨bx, 0, none⟩ (.string S1)) bx 1 (.string T1)
  have e1 := fun x (q : x ≠ bx) (q2 : x < wr.heap.size) => (g1.block x q2 (fun e => q (by cases e; rfl)))
  refine ⟨(h.st.grown g1 h.lo.1 h.fr.1 h.ne.1 h.ne.2.1 h.ne.2.2.1 h.nt.1).grown g2 h.lo.1 h.fr.1 h.ne.1 h.ne.2.1 h.ne.2.2.1 h.nt.1, (h.k.set 0 _).set 1 _, ?_, h.lo, h.ne, h.nt, h.fr⟩
  have q1 := h.rg.kept (g1.block r2 h.rg.lt.1 (fun e => h.ne.2.2.1 (by cases e; rfl))) (g1.block ri h.rg.lt.2.1 (fun e => h.ne.2.2.2.2.2 (by cases e; rfl)))
  exact q1.kept (g2.block r2 q1.lt.1 (fun e => h.ne.2.2.1 (by cases e; rfl))) (g2.block ri q1.lt.2.1 (fun e => h.ne.2.2.2.2.2 (by cases e; rfl)))
theorem AlR.leftB (h : AlR w0 φ bt a c n m1 m2 l b6 r1 r2 fA fW bx S0 T0 ri S wr) (hb : Below wr.heap.size wr w') : w'.rangeLeft r2 ri = wr.rangeLeft r2 ri := rngF_left h.rg (hb.block _ h.rg.lt.1) (hb.block _ h.rg.lt.2.1)
theorem AlR.leftS (h : AlR w0 φ bt a c n m1 m2 l b6 r1 r2 fA fW bx S0 T0 ri S wr) (u v : Value) : ((wr.setCell ⟨bx, 0, none⟩ u).setCell ⟨bx, 1, none⟩ v).rangeLeft r2 ri = wr.rangeLeft r2 ri := by
  have g1 := grown_setC wr bx 0 u
  have g2 := grown_setC (wr.setCell ⟨bx, 0, none⟩ u) bx 1 v
  have a1 := g1.block r2 h.rg.lt.1 (fun e => h.ne.2.2.1 (by cases e; rfl))
  have a2 := g1.block ri h.rg.lt.2.1 (fun e => h.ne.2.2.2.2.2 (by cases e; rfl))
  have q1 := h.rg.kept a1 a2
  rw [rngF_left q1 (g2.block r2 q1.lt.1 (fun e => h.ne.2.2.1 (by cases e; rfl))) (g2.block ri q1.lt.2.1 (fun e => h.ne.2.2.2.2.2 (by cases e; rfl))), rngF_left h.rg a1 a2]
theorem AlR.start (h : AlS w0 φ bt a c n m1 m2 l b6 r1 r2 fA fW wr) (S0 T0 : ByteArray) (hr : RngF w' r2 (wr.heap.size + 1) fW []) (hb : Below (wr.heap.size + 1) (wr.alloc (.cells #[.string S0, .string T0] 32)) w') : AlR w0 φ bt a c n m1 m2 l b6 r1 r2 fA fW wr.heap.size S0 T0 (wr.heap.size + 1) [] w' := by
  have e1 : (wr.alloc (.cells #[.string S0, .string T0] 32)).heap.size = wr.heap.size + 1 := by simp
  have hA := h.callB ((Below.refl _ _).alloc (Nat.le_refl _) (.cells #[.string S0, .string T0] 32))
  have hK := Blk.new wr #[.string S0, .string T0] 32
  rw [← e1] at hb
  have h1 := h.k.lt
  have h2 := h.ma.lt
  have h3 := h.mw.lt
  have h4 := h.tr.blk.lt
  have h5 := h.tr.at_.lt
  have h6 := h.tr.lev.lt
  have h7 := h.bel.size
  exact ⟨hA.callB hb, hK.callB hb, hr, ⟨by omega, by omega⟩, ⟨by omega, by omega, by omega, by omega, by omega, by omega⟩, ⟨⟨by omega, by omega, by omega⟩, by omega, by omega, by omega⟩, h.fz.new_none (Nat.le_refl _), h.fz.new_none (by omega)⟩
end
/-- A result's cell, a box, and perhaps a new cell. -/
structure AqS (w0 : World) (φ : Phi) (b6 bx : Nat) (S0 T0 : ByteArray) (o : Option Nat) (W : World) : Prop where
  bel : Below w0.heap.size w0 W
  fz : Fz φ W
  k6 : Blk W b6 #[.string ⟨#[]⟩, .string ⟨#[]⟩] 32
  kx : Blk W bx #[.string S0, .string T0] 32
  lo : w0.heap.size ≤ b6
  ne : b6 ≠ bx
  fr : φ b6 = none
  o : ∀ x, o = some x → Blk W x #[.string ⟨#[]⟩, .string ⟨#[]⟩] 32 ∧ w0.heap.size ≤ x ∧ x ≠ b6 ∧ x ≠ bx ∧ φ x = none
section
variable {w0 W w' : World} {φ : Phi} {b6 bx x : Nat} {S0 T0 : ByteArray} {o : Option Nat}
theorem AqS.callB (h : AqS w0 φ b6 bx S0 T0 o W) (hb : Below W.heap.size W w') : AqS w0 φ b6 bx S0 T0 o w' :=
  ⟨h.bel.trans (hb.mono h.bel.size), h.fz.below hb, h.k6.callB hb, h.kx.callB hb, h.lo, h.ne, h.fr, fun x hx => ⟨(h.o x hx).1.callB hb, (h.o x hx).2⟩⟩
theorem AqS.al (h : Hid (AqS w0 φ b6 bx S0 T0 none W)) : Hid (AqS w0 φ b6 bx S0 T0 (some W.heap.size) (W.alloc (.cells #[.string ⟨#[]⟩, .string ⟨#[]⟩] 32))) := by
  have q := h.out.callB ((Below.refl _ _).alloc (Nat.le_refl _) (.cells #[.string ⟨#[]⟩, .string ⟨#[]⟩] 32))
  refine Lib.hid ⟨q.bel, q.fz, q.k6, q.kx, q.lo, q.ne, q.fr, fun x hx => ?_⟩
  cases hx
  exact ⟨Blk.new _ _ _, h.out.bel.size, by have := h.out.k6.lt; omega, by have := h.out.kx.lt; omega, h.out.fz.new_none (Nat.le_refl _)⟩
theorem AqS.alD (h : Hid (AqS w0 φ b6 bx S0 T0 none W)) : Hid (AqS w0 φ b6 bx S0 T0 (some W.heap.size) (W.alloc (.cells #[.string ⟨#[]⟩, .string ⟨#[]⟩] 32)).drew) := Lib.hid ((AqS.al h).out.callB (bdrewN (Below.refl _ _) 1))
theorem AqS.facts (h : Hid (AqS w0 φ b6 bx S0 T0 (some x) W)) : W.cell? ⟨x, 0, none⟩ = some (.string ⟨#[]⟩) ∧ W.cell? ⟨x, 1, none⟩ = some (.string ⟨#[]⟩) ∧ W.frozen? ⟨x, 0, none⟩ = false ∧ W.frozen? ⟨x, 1, none⟩ = false ∧ x ≠ bx :=
  have k := (h.out.o x rfl)
  ⟨k.1.cell 0, k.1.cell 1, k.1.frz 0, k.1.frz 1, k.2.2.2.1⟩
/-- The new cell is filled. -/
theorem AqS.put {u v : ByteArray} (h : Hid (AqS w0 φ b6 bx S0 T0 (some x) W)) : Hid (AqS w0 φ b6 x u v none ((W.setCell ⟨x, 0, none⟩ (.string u)).setCell ⟨x, 1, none⟩ (.string v))) := by
  obtain ⟨k, l1, n1, n2, f1⟩ := h.out.o x rfl
  have g1 := grown_setC W x 0 (.string u)
  have g2 := grown_setC (W.setCell ⟨x, 0, none⟩ (.string u)) x 1 (.string v)
  exact Lib.hid ⟨Below_grown (Below_grown h.out.bel g1 l1) g2 l1, (h.out.fz.grownC f1 g1).grownC f1 g2, Blk.grown (Blk.grown h.out.k6 g1 n1.symm) g2 n1.symm, (k.set 0 _).set 1 _, h.out.lo, n1.symm, h.out.fr, fun _ e => by cases e⟩
theorem AqS.putNew {u v : ByteArray} (h : Hid (AqS w0 φ b6 bx S0 T0 none W)) : Hid (AqS w0 φ b6 W.heap.size u v none (W.alloc (.cells #[.string u, .string v] 32))) := by
  have q := h.out.callB ((Below.refl _ _).alloc (Nat.le_refl _) (.cells #[.string u, .string v] 32))
  exact Lib.hid ⟨q.bel, q.fz, q.k6, Blk.new _ _ _, q.lo, by have := h.out.k6.lt; omega, q.fr, fun _ e => by cases e⟩
theorem cfraction_Q {M : Nat} (hD : Hid (DivOk M)) (hM : LenB M) {num den : Int} (b1 : -9223372036854775808 ≤ num) (b2 : num ≤ 9223372036854775807) (b3 : -9223372036854775808 ≤ den) (b4 : den ≤ 9223372036854775807) (hn : num.natAbs ≤ M) (hd : den.natAbs ≤ M) (hd0 : den ≠ 0) (hp : Hid (PowP φ)) {S T : ByteArray} {F : Int} (hR : Hid (ratR ((num : Rat) / (den : Rat)) = (S, T, F))) (h : Hid (AqS w0 φ b6 bx S0 T0 o W)) :
    Calls Tryz.prog 18 #[.int .i64 num, .int .i64 den] W (fun e w' => e = .returned (.agg #[.string S, .string T]) ∧ Hid (AqS w0 φ b6 bx S0 T0 o w')) := by
  refine (cfraction_any hD hM b1 b2 b3 b4 hn hd hd0 h.out.fz hp.out hR).mono ?_
  rintro e w' ⟨rfl, hb⟩
  exact ⟨rfl, Lib.hid (h.out.callB hb)⟩
theorem Product_Q {s1 t1 s2 t2 : ByteArray} (hs : Hid (s1.size ≤ 9223372036854775807 ∧ t1.size ≤ 9223372036854775807 ∧ s2.size ≤ 9223372036854775807 ∧ t2.size ≤ 9223372036854775807)) {x y : Rat} (h1 : Hid (ratF s1 t1 = 0 ∧ ratX s1 t1 = x)) (h2 : Hid (ratF s2 t2 = 0 ∧ ratX s2 t2 = y)) (hp : Hid (PowP φ)) {S T : ByteArray} {F : Int} (hR : Hid (ratR (x * y) = (S, T, F))) (h : Hid (AqS w0 φ b6 bx S0 T0 o W)) :
    Calls Tryz.prog 29 #[.agg #[.string s1, .string t1], .agg #[.string s2, .string t2]] W (fun e w' => e = .returned (.tuple #[.agg #[.string S, .string T], .int .i64 F]) ∧ Hid (AqS w0 φ b6 bx S0 T0 o w')) := by
  refine (Product_any mAl_div mAl_len mAl_2 hs h1 h2 (Lib.hid rfl) (Lib.hid ⟨mAl_N.2, mAl_2⟩) h.out.fz hp.out hR).mono ?_
  rintro e w' ⟨rfl, hb⟩
  exact ⟨rfl, Lib.hid (h.out.callB hb)⟩
theorem Sum_Q {s1 t1 s2 t2 : ByteArray} (hs : Hid (s1.size ≤ 9223372036854775807 ∧ t1.size ≤ 9223372036854775807 ∧ s2.size ≤ 9223372036854775807 ∧ t2.size ≤ 9223372036854775807)) {x y : Rat} (h1 : Hid (ratF s1 t1 = 0 ∧ ratX s1 t1 = x)) (h2 : Hid (ratF s2 t2 = 0 ∧ ratX s2 t2 = y)) (hp : Hid (PowP φ)) {S T : ByteArray} {F : Int} (hR : Hid (ratR (x + y) = (S, T, F))) (h : Hid (AqS w0 φ b6 bx S0 T0 o W)) :
    Calls Tryz.prog 28 #[.agg #[.string s1, .string t1], .agg #[.string s2, .string t2]] W (fun e w' => e = .returned (.tuple #[.agg #[.string S, .string T], .int .i64 F]) ∧ Hid (AqS w0 φ b6 bx S0 T0 o w')) := by
  refine (Sum_any mAl_div mAl_len mAl_2 hs h1 h2 (Lib.hid rfl) (Lib.hid mAl_N) h.out.fz hp.out hR).mono ?_
  rintro e w' ⟨rfl, hb⟩
  exact ⟨rfl, Lib.hid (h.out.callB hb)⟩
end
theorem wiF_key {l : List Nod} {tr : Bool} {gs : List (List Cdg)} (h50 : ∀ g ∈ gs, g.length ≤ 50) {m x : Int} (h : wiF l tr (bigG gs) m = some x) : 2 ≤ m ∧ m ≤ 50 ∧ x = (wiN l tr (bigG gs) m : Int) := by
  unfold wiF at h
  split at h
  · next hm =>
    obtain ⟨g, hg, rfl⟩ := List.mem_map.1 hm
    obtain ⟨h1, h2⟩ := List.mem_filter.1 hg
    have := h50 g h1
    have h3 : 2 ≤ g.length := by simpa using h2
    exact ⟨by omega, by omega, by cases h; rfl⟩
  · cases h
theorem wiF_has {l : List Nod} {tr : Bool} {gs : List (List Cdg)} {S : List Int} (h : ∀ k x, wiF l tr (bigG gs) k = some x → k ∈ S) : ∀ g ∈ bigG gs, (g.length : Int) ∈ S := fun g hg => h _ (wiN l tr (bigG gs) (g.length : Int)) (by unfold wiF; rw [if_pos (List.mem_map.2 ⟨g, hg, rfl⟩)])
theorem obs_step {l : List Nod} {tr : Bool} {B : List (List Cdg)} {S : List Int} {m : Int} (h1 : 2 ≤ m) (h2 : m ≤ 50) : (obsN l tr B S : Rat) / (e49 : Rat) + ((wiN l tr B m : Int) : Rat) / ((m - 1 : Int) : Rat) = (obsN l tr B (m :: S) : Rat) / (e49 : Rat) := by
  rw [nat_int, part_49 h1 h2, sum_49]
  unfold obsN
  rw [sumN_cons, Nat.add_comm]
theorem obs_nil (l : List Nod) (tr : Bool) (B : List (List Cdg)) : ((0 : Int) : Rat) / ((1 : Int) : Rat) = (obsN l tr B [] : Rat) / (e49 : Rat) := by
  have he := e49_ne
  have : obsN l tr B [] = 0 := rfl
  rw [this]
  generalize (e49 : Rat) = E at *
  simp
  try grind
end Go.Proofs.YtngogjookldidaaGreatDoor
