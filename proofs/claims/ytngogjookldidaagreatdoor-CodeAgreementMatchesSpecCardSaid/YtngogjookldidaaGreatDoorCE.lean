/- How far codes scatter: the plain law and the program's walks of apart and scatter. Conditions: the tree and the map are in memory as told. The program's sums and products of ratios: the walks of two, Sum and Product. Conditions: both ratios are right; the library's table of powers of ten reads as it was laid. The program's Sum and Product of ratios. Conditions: both ratios are right; the library's table of powers of ten reads as it was laid. The program's products of ratios. Conditions: both ratios are right; the library's table of powers of ten reads as it was laid. Conditions: none beyond what the claim form gives. -/
import Derived.Test.YtngogjookldidaaGreatDoorCD
import Derived.Test.YtngogjookldidaaGreatDoorKB
import Derived.Test.YtngogjookldidaaGreatDoorPC
import Derived.Test.YtngogjookldidaaGreatDoorPD
import Derived.RegionTactic
import Derived.BigRegion
namespace Go.Proofs.YtngogjookldidaaGreatDoor
open Go.RowKit
set_option linter.unusedVariables false
set_option linter.unusedSimpArgs false
noncomputable def farN (l : List Nod) (tr : Bool) (x y : Int) : Nat := if x = y then 0 else if tr = false then 1 else (distOf l x y * distOf l x y).toNat
theorem farN_le {l : List Nod} {n : Nat} (h : TrOk l n) (tr : Bool) {x y : Int} (hx : (ix l x).isSome = true) (hy : (ix l y).isSome = true) : farN l tr x y ≤ 256 := by
  unfold farN
  split
  · omega
  · split
    · omega
    · obtain ⟨h1, h2⟩ := dist_bound h hx hy
      have h3 : distOf l x y * distOf l x y ≤ 16 * 16 := Int.mul_le_mul h2 h2 h1 (by omega)
      omega
theorem farN_sq {l : List Nod} {n : Nat} (h : TrOk l n) {x y : Int} (hx : (ix l x).isSome = true) (hy : (ix l y).isSome = true) : ((distOf l x y * distOf l x y).toNat : Int) = distOf l x y * distOf l x y := by
  obtain ⟨h1, _⟩ := dist_bound h hx hy
  have := Int.mul_nonneg h1 h1
  omega
/-- The sum over all ordered pairs of a list. -/
noncomputable def rowN (l : List Nod) (tr : Bool) (A : List Int) (x : Int) : Nat := (A.map (fun y => farN l tr x y)).sum
noncomputable def scatN (l : List Nod) (tr : Bool) (A : List Int) : Nat := (A.map (rowN l tr A)).sum
def cnA (A : List Int) (c : Int) : Nat := cntP (fun q => q = c) A
def coF (A : List Int) : Int → Option Int := fun c => cnF (cnA A c)
noncomputable def inN (l : List Nod) (tr : Bool) (A : List Int) (c : Int) (S : List Int) : Nat := sumN S (fun d => cnA A c * cnA A d * farN l tr c d)
noncomputable def outN (l : List Nod) (tr : Bool) (A : List Int) (S : List Int) : Nat := sumN S (fun c => cnA A c * rowN l tr A c)
theorem inN_all {l : List Nod} {tr : Bool} {A : List Int} {c : Int} {S : List Int} (hn : S.Nodup) (hc : ∀ d ∈ A, d ∈ S) : inN l tr A c S = cnA A c * rowN l tr A c := by
  have h := sum_cover hn (fun q : Int => q) (fun d => cnA A c * farN l tr c d) A hc
  have e : inN l tr A c S = sumN S (fun k => cnA A c * farN l tr c k * cntP (fun x => x = k) A) := sumN_congr (fun d _ => by
    show cnA A c * cnA A d * farN l tr c d = cnA A c * farN l tr c d * cnA A d
    rw [Nat.mul_assoc, Nat.mul_comm (cnA A d), ← Nat.mul_assoc])
  rw [e, h]
  unfold rowN
  clear h e hn hc
  generalize cnA A c = k
  induction A with
  | nil => simp
  | cons x A ih => simp only [List.map_cons, List.sum_cons, ih, Nat.mul_add]
theorem outN_all {l : List Nod} {tr : Bool} {A : List Int} {S : List Int} (hn : S.Nodup) (hc : ∀ d ∈ A, d ∈ S) : outN l tr A S = scatN l tr A := by
  have h := sum_cover hn (fun q : Int => q) (fun d => rowN l tr A d) A hc
  have e : outN l tr A S = sumN S (fun k => rowN l tr A k * cntP (fun x => x = k) A) := sumN_congr (fun d _ => Nat.mul_comm _ _)
  rw [e, h]; rfl
theorem rowN_le {l : List Nod} {n : Nat} (h : TrOk l n) (tr : Bool) {A : List Int} (hv : ∀ c ∈ A, (ix l c).isSome = true) {x : Int} (hx : (ix l x).isSome = true) : rowN l tr A x ≤ A.length * 256 := by
  unfold rowN
  induction A with
  | nil => simp
  | cons y A ih =>
    rw [List.map_cons, List.sum_cons, List.length_cons, Nat.add_mul]
    have := farN_le h tr hx (hv y (by simp))
    have := ih (fun c hc => hv c (by simp [hc]))
    omega
theorem cnA_mem {A : List Int} {c : Int} (h : 0 < cnA A c) : c ∈ A := by
  obtain ⟨x, hx, e⟩ := cntP_mem h
  rw [← e]; exact hx
/-- Bounds of the sums on the way. -/
theorem part_le {l : List Nod} {n : Nat} (h : TrOk l n) (tr : Bool) {A : List Int} (hv : ∀ c ∈ A, (ix l c).isSome = true) {S S2 : List Int} {c : Int} (hn : (c :: S).Nodup) (hn2 : S2.Nodup) (hS : ∀ d ∈ c :: S, d ∈ A) (hS2 : ∀ d ∈ S2, d ∈ A) : outN l tr A S + inN l tr A c S2 ≤ A.length * (A.length * 256) := by
  have h1 : outN l tr A S ≤ sumN S (fun d => cnA A d * (A.length * 256)) := sumN_le (fun d hd => Nat.mul_le_mul_left _ (rowN_le h tr hv (hv d (hS d (by simp [hd])))))
  have h2 : inN l tr A c S2 ≤ cnA A c * (A.length * 256) := by
    have e1 : inN l tr A c S2 ≤ sumN S2 (fun d => cnA A d * (cnA A c * 256)) := sumN_le (fun d hd => by
      have hf := farN_le h tr (hv c (hS c (by simp))) (hv d (hS2 d hd))
      show cnA A c * cnA A d * farN l tr c d ≤ cnA A d * (cnA A c * 256)
      rw [Nat.mul_comm (cnA A c), Nat.mul_assoc]
      exact Nat.mul_le_mul_left _ (Nat.mul_le_mul_left _ hf))
    rw [sumN_mul] at e1
    have e2 : sumN S2 (fun d => cnA A d) ≤ A.length := sum_cover_le hn2 (fun q : Int => q) A
    refine Nat.le_trans e1 (Nat.le_trans (Nat.mul_le_mul_right _ e2) ?_)
    rw [Nat.mul_comm (cnA A c) 256, ← Nat.mul_assoc, Nat.mul_comm (A.length * 256)]
    exact Nat.le_refl _
  rw [sumN_mul] at h1
  have h3 : sumN (c :: S) (fun d => cnA A d) ≤ A.length := sum_cover_le hn (fun q : Int => q) A
  rw [sumN_cons] at h3
  have h4 : (cnA A c + sumN S (fun d => cnA A d)) * (A.length * 256) ≤ A.length * (A.length * 256) := Nat.mul_le_mul_right _ h3
  rw [Nat.add_mul] at h4
  exact Nat.le_trans (Nat.add_le_add h1 h2) (by rw [Nat.add_comm]; exact h4)
theorem apart_any {w : World} {bt : Nat} {a : Option Addr} {c n m1 m2 : Nat} {l : List Nod} {φ : Phi} (hφ : Fz φ w) (s : SlV φ a c l) (ht : TreeW w bt a c n m1 m2 (atF l) (lvF l)) (hok : Hid (TrOk l n)) (x y : Int) (hx : Hid ((ix l x).isSome = true)) (hy : Hid ((ix l y).isSome = true)) (tr : Bool) :
    Calls Tryz.prog 51 #[.pointer (some ⟨bt, 0, none⟩), .int .i64 x, .int .i64 y, .bool tr] w (IntB (farN l tr x y : Nat) w) := by
  have HT := Lib.hid ht
  clear ht
  by_cases hxy : x = y
  · have hg : ((x : Int) == y) = true := by simp [hxy]
    have e : Hid (farN l tr x y = 0) := Lib.hid (by rw [farN, if_pos hxy])
    clear hxy
    go_enter Tryz.func51, Tryz.ntmps51
    go_wp2
    go_ret
    exact ⟨ret_int (by rw [e.out]; rfl), Below.refl _ _⟩
  have hg : ((x : Int) == y) = false := by simp [hxy]
  cases tr with
  | false =>
    have e : Hid (farN l false x y = 1) := Lib.hid (by rw [farN, if_neg hxy, if_pos rfl])
    clear hxy
    go_enter Tryz.func51, Tryz.ntmps51
    go_wp2
    go_ret
    exact ⟨ret_int (by rw [e.out]; rfl), Below.refl _ _⟩
  | true =>
    have e : Hid ((farN l true x y : Int) = distOf l x y * distOf l x y) := Lib.hid (by rw [farN, if_neg hxy, if_neg (by simp), farN_sq hok.out hx.out hy.out])
    obtain ⟨d1, d2⟩ := dist_bound hok.out hx.out hy.out
    have hw : IntKind.i64.wrap (distOf l x y * distOf l x y) = distOf l x y * distOf l x y := IntWalk.i64_in _ (by
      have h3 : distOf l x y * distOf l x y ≤ 16 * 16 := Int.mul_le_mul d2 d2 d1 (by omega)
      have := Int.mul_nonneg d1 d1
      omega)
    rw [e.out]
    clear hxy e d1 d2
    go_enter Tryz.func51, Tryz.ntmps51
    go_wp2_with fail
    refine (meeting_any hφ s HT.out hok x y hx.out hy.out).mono ?_
    rintro e w1 ⟨rfl, hb⟩
    generalize distOf l x y = d at *
    go_wp2
    go_ret
    exact ⟨rfl, hb⟩
/-- Two ranges over one map, nothing written. -/
structure ScS (w0 : World) (φ : Phi) (bt : Nat) (a : Option Addr) (c n m1 m2 : Nat) (l : List Nod) (rm ri : Nat) (f : Int → Option Int) (S : List Int) (wr : World) : Prop where
  bel : Below w0.heap.size w0 wr
  fz : Fz φ wr
  tr : TreeW wr bt a c n m1 m2 (atF l) (lvF l)
  rg : RngF wr rm ri f S
  ri0 : w0.heap.size ≤ ri
  fr : φ ri = none
  nt : bt ≠ ri ∧ m1 ≠ ri ∧ m2 ≠ ri
section
variable {w0 wr w' : World} {φ : Phi} {bt : Nat} {a : Option Addr} {c n m1 m2 : Nat} {l : List Nod} {rm ri rj : Nat} {f : Int → Option Int} {S S' S2 : List Int}
theorem ScS.callB (h : ScS w0 φ bt a c n m1 m2 l rm ri f S wr) (hb : Below wr.heap.size wr w') : ScS w0 φ bt a c n m1 m2 l rm ri f S w' :=
  ⟨h.bel.trans (hb.mono h.bel.size), h.fz.below hb, h.tr.callB hb, h.rg.callB hb, h.ri0, h.fr, h.nt⟩
theorem TreeW.grownC (h : TreeW wr bt a c n m1 m2 (atF l) (lvF l)) {g : Nat} (hg : wr.grownBy w' (some g)) (h0 : bt ≠ g) (h1 : m1 ≠ g) (h2 : m2 ≠ g) : TreeW w' bt a c n m1 m2 (atF l) (lvF l) :=
  ⟨Blk.grown h.blk hg h0, h.at_.grown hg h1, h.lev.grown hg h2⟩
theorem ScS.next (h : ScS w0 φ bt a c n m1 m2 l rm ri f S wr) (hg : wr.grownBy w' (some ri)) (hR : RngF w' rm ri f S') : ScS w0 φ bt a c n m1 m2 l rm ri f S' w' :=
  ⟨Below_grown h.bel hg h.ri0, h.fz.grownC h.fr hg, h.tr.grownC hg h.nt.1 h.nt.2.1 h.nt.2.2, hR, h.ri0, h.fr, h.nt⟩
/-- The step of another range over the same map. -/
theorem ScS.other (h : ScS w0 φ bt a c n m1 m2 l rm ri f S wr) (k : ScS w0 φ bt a c n m1 m2 l rm rj f S2 wr) (hg : wr.grownBy w' (some rj)) (hne : ri ≠ rj) : ScS w0 φ bt a c n m1 m2 l rm ri f S w' :=
  ⟨Below_grown h.bel hg k.ri0, h.fz.grownC k.fr hg, h.tr.grownC hg k.nt.1 k.nt.2.1 k.nt.2.2, h.rg.kept (hg.block rm h.rg.lt.1 (fun e => k.rg.lt.2.2 (by cases e; rfl))) (hg.block ri h.rg.lt.2.1 (fun e => hne (by cases e; rfl))), h.ri0, h.fr, h.nt⟩
theorem ScS.start (hb : Below w0.heap.size w0 wr) (hf : Fz φ wr) (ht : TreeW wr bt a c n m1 m2 (atF l) (lvF l)) (hr : RngF w' rm wr.heap.size f []) (hb2 : Below wr.heap.size wr w') : ScS w0 φ bt a c n m1 m2 l rm wr.heap.size f [] w' :=
  ⟨hb.trans (hb2.mono hb.size), hf.below hb2, ht.callB hb2, hr, hb.size, hf.new_none (Nat.le_refl _), by have := ht.blk.lt; omega, by have := ht.at_.lt; omega, by have := ht.lev.lt; omega⟩
end
theorem rngF_left {w w' : World} {b r : Nat} {f : Int → Option Int} {S : List Int} (h : RngF w b r f S) (hb : w'.heap[b]? = w.heap[b]?) (hr : w'.heap[r]? = w.heap[r]?) : w'.rangeLeft b r = w.rangeLeft b r := by
  obtain ⟨M, h, _⟩ := h; rw [h.left, (h.kept hb hr).left]
set_option maxRecDepth 100000 in
set_option maxHeartbeats 4000000 in
theorem scatter_any {w : World} {bt : Nat} {a : Option Addr} {c n m1 m2 rm : Nat} {l : List Nod} {φ : Phi} (hφ : Fz φ w) (s : SlV φ a c l) (ht : TreeW w bt a c n m1 m2 (atF l) (lvF l)) (hok : Hid (TrOk l n)) {A : List Int} (hm : MapW w rm (coF A)) (hl : A.length ≤ 20000) (hv : Hid (∀ c ∈ A, (ix l c).isSome = true)) (tr : Bool) :
    Calls Tryz.prog 27 #[.pointer (some ⟨bt, 0, none⟩), .map (some rm), .bool tr] w (IntB (scatN l tr A : Nat) w) := by
  have HT := Lib.hid ht
  have HF := Lib.hid hφ
  have HMW := Lib.hid hm
  have HS := Lib.hid s
  have hAA : A.length * (A.length * 256) ≤ 20000 * (20000 * 256) := Nat.mul_le_mul hl (Nat.mul_le_mul_right _ hl)
  clear ht hφ hm s
  go_enter Tryz.func27, Tryz.ntmps27
  go_wp2_with (at_range; refine wpList_range_F rfl _ rfl rfl HMW.out ?_; intro w0 hrg0 hb0 hs0)
  (try go_frame)
  have hS0 : Hid (ScS w φ bt a c n m1 m2 l rm w.heap.size (coF A) [] w0) := Lib.hid (ScS.start (Below.refl _ _) HF.out HT.out hrg0 hb0)
  clear hrg0 hb0 hs0 HT HF HMW
  generalize hri : w.heap.size = ri at *
  replace hri := Lib.hid hri
  go_loopw [7] (fun v7 wr => ∃ S : List Int, v7 = .int .i64 (outN l tr A S : Nat) ∧ Hid (S.Nodup ∧ ∀ d ∈ S, d ∈ A) ∧ Hid (ScS w φ bt a c n m1 m2 l rm ri (coF A) S wr)) (fun _ wr => wr.rangeLeft rm ri)
  case atStart => exact ⟨[], rfl, Lib.hid ⟨List.nodup_nil, by simp⟩, hS0⟩
  case round =>
    clear hS0
    obtain ⟨S, rfl, hnd, hS⟩ := hrel
    go_wp2_with (at_next; refine wpList_next_F rfl _ rfl rfl hS.out.rg ?_ ?_)
    · intro hdone
      have e : Hid (outN l tr A S = scatN l tr A) := Lib.hid (outN_all hnd.out.1 (fun d hd => hdone d _ (show coF A d = some _ from cnF_pos' (cntP_pos (fun q => q = d) hd rfl))))
      rw [e.out]
      clear hdone e
      go_wp2
      go_ret
      exact ⟨rfl, hS.out.bel⟩
    · intro c1 v1 w1 hf1 hS1 hR1 hg1 hsz1 hlt1 hen1
      obtain ⟨hc1, rfl⟩ := cnF_some hf1
      have hSn := Lib.hid (hS.out.next hg1 hR1)
      have hnd1 : Hid ((c1 :: S).Nodup ∧ ∀ d ∈ c1 :: S, d ∈ A) := Lib.hid ⟨List.nodup_cons.2 ⟨hS1, hnd.out.1⟩, fun d hd => by
        rcases List.mem_cons.1 hd with rfl | hd
        · exact cnA_mem hc1
        · exact hnd.out.2 d hd⟩
      have hlt' := Lib.hid hlt1
      have hm1 := Lib.hid hSn.out.rg.map
      clear hf1 hS1 hR1 hg1 hsz1 hlt1 hS
      go_wp2_with (at_range; refine wpList_range_F rfl _ rfl rfl hm1.out ?_; intro w2 hrg2 hb2 hs2)
      (try go_frame)
      have hT0 : Hid (ScS w φ bt a c n m1 m2 l rm w1.heap.size (coF A) [] w2) := Lib.hid (ScS.start hSn.out.bel hSn.out.fz hSn.out.tr hrg2 hb2)
      have hSo : Hid (ScS w φ bt a c n m1 m2 l rm ri (coF A) (c1 :: S) w2) := Lib.hid (hSn.out.callB hb2)
      have hne : Hid (ri ≠ w1.heap.size) := Lib.hid (by have := hSn.out.rg.lt.2.1; omega)
      have hleft : Hid (w2.rangeLeft rm ri < wr.rangeLeft rm ri) := Lib.hid (by
        rw [rngF_left hSn.out.rg (hb2.block rm hSn.out.rg.lt.1) (hb2.block ri hSn.out.rg.lt.2.1)]
        exact hlt'.out)
      clear hrg2 hb2 hs2 hm1 hSn hlt' hen1
      generalize w1.heap.size = rj at *
      go_loopw [7] (fun v7 wi => ∃ (S2 : List Int) (P : Nat), v7 = .int .i64 (P : Int) ∧ Hid (outN l tr A S + inN l tr A c1 S2 = P) ∧ Hid (S2.Nodup ∧ ∀ d ∈ S2, d ∈ A) ∧ Hid (ScS w φ bt a c n m1 m2 l rm rj (coF A) S2 wi) ∧ Hid (ScS w φ bt a c n m1 m2 l rm ri (coF A) (c1 :: S) wi) ∧ Hid (wi.rangeLeft rm ri < wr.rangeLeft rm ri)) (fun _ wi => wi.rangeLeft rm rj)
      case atStart => exact ⟨[], outN l tr A S, rfl, Lib.hid rfl, Lib.hid ⟨List.nodup_nil, by simp⟩, hT0, hSo, hleft⟩
      case round =>
        clear hT0 hSo hleft
        rename World => wi
        obtain ⟨S2, P, rfl, hP, hnd2, hT, hSo, hleft⟩ := hrel
        go_wp2_with (at_next; refine wpList_next_F rfl _ rfl rfl hT.out.rg ?_ ?_)
        · intro hdone
          have e : Hid (outN l tr A S + inN l tr A c1 S2 = outN l tr A (c1 :: S)) := Lib.hid (by
            rw [inN_all hnd2.out.1 (fun d hd => hdone d _ (show coF A d = some _ from cnF_pos' (cntP_pos (fun q => q = d) hd rfl)))]
            unfold outN
            rw [sumN_cons, Nat.add_comm])
          have hPe := hP.out.symm.trans e.out
          subst hPe
          clear hdone
          go_wp2
          go_roundw
          case rel => exact ⟨c1 :: S, rfl, hnd1, hSo⟩
          case measure => exact hleft.out
        · intro c2 v2 w3 hf2 hS3 hR3 hg3 hsz3 hlt3 hen3
          obtain ⟨hc2, rfl⟩ := cnF_some hf2
          have hTn := Lib.hid (hT.out.next hg3 hR3)
          have hSn := Lib.hid (hSo.out.other hT.out hg3 hne.out)
          have hl3 := Lib.hid hlt3
          have hleft3 : Hid (w3.rangeLeft rm ri < wr.rangeLeft rm ri) := Lib.hid (by
            rw [rngF_left hSo.out.rg (hg3.block rm hSo.out.rg.lt.1 (fun e => hT.out.rg.lt.2.2 (by cases e; rfl))) (hg3.block ri hSo.out.rg.lt.2.1 (fun e => hne.out (by cases e; rfl)))]
            exact hleft.out)
          have hnd3 : Hid ((c2 :: S2).Nodup ∧ ∀ d ∈ c2 :: S2, d ∈ A) := Lib.hid ⟨List.nodup_cons.2 ⟨hS3, hnd2.out.1⟩, fun d hd => by
            rcases List.mem_cons.1 hd with rfl | hd
            · exact cnA_mem hc2
            · exact hnd2.out.2 d hd⟩
          have hbd := part_le hok.out tr hv.out hnd1.out.1 hnd3.out.1 hnd1.out.2 hnd3.out.2
          have hst : Hid (inN l tr A c1 (c2 :: S2) = cnA A c1 * cnA A c2 * farN l tr c1 c2 + inN l tr A c1 S2) := Lib.hid (sumN_cons _ _ _)
          rw [hst.out] at hbd
          have hvx := Lib.hid (hv.out c1 (hnd1.out.2 c1 (by simp)))
          have hvy := Lib.hid (hv.out c2 (hnd3.out.2 c2 (by simp)))
          have hca : cnA A c1 ≤ 20000 := Nat.le_trans (cntP_le _ _) hl
          have hcb : cnA A c2 ≤ 20000 := Nat.le_trans (cntP_le _ _) hl
          have hpq : cnA A c1 * cnA A c2 ≤ 20000 * 20000 := Nat.mul_le_mul hca hcb
          obtain ⟨q1, hq1⟩ : ∃ q, Hid (cnA A c1 * cnA A c2 = q) := ⟨_, Lib.hid rfl⟩
          obtain ⟨q2, hq2⟩ : ∃ q, Hid (q1 * farN l tr c1 c2 = q) := ⟨_, Lib.hid rfl⟩
          rw [hq1.out] at hst hbd hpq
          rw [hq2.out] at hst hbd
          have hw1 : IntKind.i64.wrap ((cnA A c1 : Int) * (cnA A c2 : Int)) = (q1 : Int) := by
            rw [← hq1.out, Int.natCast_mul]
            refine IntWalk.i64_in _ ?_
            rw [← Int.natCast_mul, hq1.out]
            omega
          have hw2 : IntKind.i64.wrap ((q1 : Int) * (farN l tr c1 c2 : Int)) = (q2 : Int) := by
            rw [← hq2.out, Int.natCast_mul]
            refine IntWalk.i64_in _ ?_
            rw [← Int.natCast_mul, hq2.out]
            omega
          have hAp := fun W (hx : ScS w φ bt a c n m1 m2 l rm rj (coF A) (c2 :: S2) W) => apart_any hx.fz HS.out hx.tr hok c1 c2 hvx hvy tr
          generalize farN l tr c1 c2 = fa at *
          have hbd2 : P + q2 ≤ 20000 * (20000 * 256) := by have := hP.out; omega
          clear hf2 hS3 hR3 hg3 hsz3 hlt3 hT hSo hleft hbd hca hcb hpq hq1 hq2
          go_wp2_with (go_at_call 51; refine (hAp _ hTn.out).mono ?_; rintro e w4 ⟨rfl, hb4⟩)
          go_roundw
          case rel =>
            refine ⟨c2 :: S2, P + q2, by rw [Int.natCast_add], Lib.hid ?_, hnd3, Lib.hid (hTn.out.callB hb4), Lib.hid (hSn.out.callB hb4), Lib.hid ?_⟩
            · have := hst.out; have := hP.out; omega
            · rw [rngF_left hSn.out.rg (hb4.block rm hSn.out.rg.lt.1) (hb4.block ri hSn.out.rg.lt.2.1)]; exact hleft3.out
          case measure =>
            rw [rngF_left hTn.out.rg (hb4.block rm hTn.out.rg.lt.1) (hb4.block rj hTn.out.rg.lt.2.1)]
            exact hl3.out
end Go.Proofs.YtngogjookldidaaGreatDoor

namespace Go.Proofs.YtngogjookldidaaGreatDoor
open Go.RowKit
set_option linter.unusedVariables false
set_option linter.unusedSimpArgs false
/-- Two results' cells, three cells each. -/
structure TwC (w0 : World) (φ0 φ : Phi) (b4 b5 : Nat) (cs ds : Array Value) (W : World) : Prop where
  x : RsSt w0 φ0 φ b4 cs 85 W
  y : RsSt w0 φ0 φ b5 ds 85 W
  ne : b4 ≠ b5
section
variable {w0 W w' : World} {φ0 φ φ' : Phi} {b4 b5 : Nat} {cs ds : Array Value}
theorem TwC.call (h : TwC w0 φ0 φ b4 b5 cs ds W) (hi : Inv W.heap.size W φ φ' w') : TwC w0 φ0 φ' b4 b5 cs ds w' := ⟨h.x.call hi, h.y.call hi, h.ne⟩
theorem TwC.callB (h : TwC w0 φ0 φ b4 b5 cs ds W) (hb : Below W.heap.size W w') : TwC w0 φ0 φ b4 b5 cs ds w' := ⟨h.x.callB hb, h.y.callB hb, h.ne⟩
theorem TwC.set1 (h : TwC w0 φ0 φ b4 b5 cs ds W) (j : Nat) (u : Value) : TwC w0 φ0 φ b4 b5 (cs.setIfInBounds j u) ds (W.setCell ⟨b4, j, none⟩ u) := ⟨h.x.set j u, h.y.oth h.x h.ne j u, h.ne⟩
theorem TwC.set2 (h : TwC w0 φ0 φ b4 b5 cs ds W) (j : Nat) (u : Value) : TwC w0 φ0 φ b4 b5 cs (ds.setIfInBounds j u) (W.setCell ⟨b5, j, none⟩ u) := ⟨h.x.oth h.y h.ne.symm j u, h.y.set j u, h.ne⟩
theorem TwC.put1 (h : TwC w0 φ0 φ b4 b5 cs ds W) (u0 u1 u2 : Value) : TwC w0 φ0 φ b4 b5 (((cs.setIfInBounds 0 u0).setIfInBounds 1 u1).setIfInBounds 2 u2) ds (((W.setCell ⟨b4, 0, none⟩ u0).setCell ⟨b4, 1, none⟩ u1).setCell ⟨b4, 2, none⟩ u2) := ((h.set1 0 u0).set1 1 u1).set1 2 u2
theorem TwC.put2 (h : TwC w0 φ0 φ b4 b5 cs ds W) (u0 u1 u2 : Value) : TwC w0 φ0 φ b4 b5 cs (((ds.setIfInBounds 0 u0).setIfInBounds 1 u1).setIfInBounds 2 u2) (((W.setCell ⟨b5, 0, none⟩ u0).setCell ⟨b5, 1, none⟩ u1).setCell ⟨b5, 2, none⟩ u2) := ((h.set2 0 u0).set2 1 u1).set2 2 u2
end
/-- What two ratios' fractions are. -/
def TwoP (x y : Rat) (N D : Nat) (φ : Phi) (w : World) (e : Ending) (w' : World) : Prop :=
  ∃ (g1 : Bool) (a1 : Option Addr) (k1 c1 : Nat) (a2 : Option Addr) (k2 c2 : Nat) (g2 : Bool) (a3 : Option Addr) (k3 c3 : Nat) (a4 : Option Addr) (k4 c4 : Nat) (φ' : Phi),
    e = .returned (.tuple #[.agg #[.bool g1, .slice a1 k1 c1, .slice a2 k2 c2], .agg #[.bool g2, .slice a3 k3 c3, .slice a4 k4 c4], .int .i64 0]) ∧ Inv w.heap.size w φ φ' w' ∧
    FfX φ' (.agg #[.bool g1, .slice a1 k1 c1, .slice a2 k2 c2]) x N D ∧ FfX φ' (.agg #[.bool g2, .slice a3 k3 c3, .slice a4 k4 c4]) y N D
theorem FfX.leC {φ : Phi} {v : Value} {x : Rat} {N D N' D' : Nat} (h : FfX φ v x N D) (hN : N ≤ N') (hD : D ≤ D') : FfX φ v x N' D' := by
  obtain ⟨g, n, d, a1, c1, a2, c2, rfl, s1, s2, h0, h1, h2, h3⟩ := h
  exact ⟨g, n, d, a1, c1, a2, c2, rfl, s1, s2, h0, Nat.le_trans h1 hN, Nat.le_trans h2 hD, h3⟩
theorem ratF_dims {s t : ByteArray} (h : ratF s t = 0) : dV (bodyB s).data.toList ≤ p10 2000 ∧ dV t.data.toList ≤ p10 2000 := by
  have h1 : ¬ (2000 < (bodyB s).size ∨ 2000 < t.size) := fun h1 => absurd ((ratF_large h1).symm.trans h) (by decide)
  have h2 : forP s t := Classical.byContradiction (fun h2 => absurd ((ratF_form h1 h2).symm.trans h) (by decide))
  have h3 := dV_lt h2.1.2.1
  have h4 := dV_lt h2.2.1.2.1
  exact ⟨Nat.le_trans (Nat.le_of_lt h3) (p10_mono (show (bodyB s).data.toList.length ≤ 2000 from (by omega : (bodyB s).size ≤ 2000))), Nat.le_trans (Nat.le_of_lt h4) (p10_mono (show t.data.toList.length ≤ 2000 from (by omega : t.size ≤ 2000)))⟩
set_option maxRecDepth 100000 in
set_option maxHeartbeats 4000000 in
theorem two_any {M : Nat} (hD : Hid (DivOk M)) (hM2 : p10 2000 ≤ M) {s1 t1 s2 t2 : ByteArray} (hs : Hid (s1.size ≤ 9223372036854775807 ∧ t1.size ≤ 9223372036854775807 ∧ s2.size ≤ 9223372036854775807 ∧ t2.size ≤ 9223372036854775807)) {x y : Rat} (h1 : Hid (ratF s1 t1 = 0 ∧ ratX s1 t1 = x)) (h2 : Hid (ratF s2 t2 = 0 ∧ ratX s2 t2 = y)) {N : Nat} (hN : Hid (p10 2000 = N)) {w : World} {φ : Phi} (hφ : Fz φ w) :
    Calls Tryz.prog 52 #[.agg #[.string s1, .string t1], .agg #[.string s2, .string t2]] w (TwoP x y N N φ w) := by
  have HM2 := Lib.hid hM2
  obtain ⟨φ1, hle1, hi1, hb1⟩ := (Inv.start hφ).frz (.cells #[.string s1, .string t1] 32)
  obtain ⟨φ2, hle2, hi2, hb2⟩ := hi1.frz (.cells #[.string s2, .string t2] 32)
  have hx0 := RsSt.start hi2 #[.bool false, .slice none 0 0, .slice none 0 0] 85
  have hT0 : Hid (TwC w φ φ2 (w.heap.size + 1 + 1) (w.heap.size + 1 + 1 + 1) #[.bool false, .slice none 0 0, .slice none 0 0] #[.bool false, .slice none 0 0, .slice none 0 0] ((((w.alloc (.cells #[.string s1, .string t1] 32)).alloc (.cells #[.string s2, .string t2] 32)).alloc (.cells #[.bool false, .slice none 0 0, .slice none 0 0] 85)).alloc (.cells #[.bool false, .slice none 0 0, .slice none 0 0] 85))) := Lib.hid (by
    have hx1 := hx0.callB ((Below.refl _ _).alloc (Nat.le_refl _) (.cells #[.bool false, .slice none 0 0, .slice none 0 0] 85))
    have hy1 := RsSt.start hx0.inv #[.bool false, .slice none 0 0, .slice none 0 0] 85
    simp only [alloc_sz] at hx1 hy1
    exact ⟨hx1, hy1, by omega⟩)
  rw [alloc_sz] at hb2
  have HB1 := Lib.hid (hle2 _ _ hb1)
  have HB2 := Lib.hid hb2
  clear hle1 hle2 hi1 hi2 hb1 hb2 hφ hx0 hM2
  go_enter Tryz.func52, Tryz.ntmps52
  go_upto_region 1 with fail
  generalize ((((w.alloc (.cells #[.string s1, .string t1] 32)).alloc (.cells #[.string s2, .string t2] 32)).alloc (.cells #[.bool false, .slice none 0 0, .slice none 0 0] 85)).alloc (.cells #[.bool false, .slice none 0 0, .slice none 0 0] 85)) = wa at *
  obtain ⟨bb, hbb⟩ : ∃ b, w.heap.size = b := ⟨_, rfl⟩
  have HBB := Lib.hid hbb
  rw [hbb] at HB1 HB2 hT0 ⊢
  clear hbb
  have LR := Lib.hid φ2.le_refl
  have hbox := Lib.hid (fun (ψ : Phi) (W : World) (hf : Fz ψ W) (hl : φ2.le ψ) => (⟨box_cell HB1.out hl hf 0, box_cell HB1.out hl hf 1, box_cell HB2.out hl hf 0, box_cell HB2.out hl hf 1⟩ : W.cell? ⟨bb, 0, none⟩ = some (.string s1) ∧ W.cell? ⟨bb, 1, none⟩ = some (.string t1) ∧ W.cell? ⟨bb + 1, 0, none⟩ = some (.string s2) ∧ W.cell? ⟨bb + 1, 1, none⟩ = some (.string t2)))
  obtain ⟨y0, y1, y2, y3⟩ := hbox.out φ2 wa hT0.out.x.inv.fz φ2.le_refl
  go_upto_region 2 with (go_at_call 77; (with_reducible refine (fracOf_any hD HM2.out hs.out.1 hs.out.2.1 hT0.out.x.inv.fz).mono ?_); rintro e w1 ⟨v, f, φ3, rfl, hf, hi3, hV, g1, a1, k1, c1, a2, k2, c2, rfl⟩; obtain rfl : f = 0 := hf.trans h1.out.1; have HV1 := Lib.hid (hV rfl); have T1 := Lib.hid (hT0.out.call hi3); have L3 := Lib.hid hi3.le; clear hf hi3 hV; have r0 : w1.cell? ⟨bb + 1 + 1, 0, none⟩ = some (.bool false) := T1.out.x.k.cell 0; have r1 : w1.cell? ⟨bb + 1 + 1, 1, none⟩ = some (.slice none 0 0) := T1.out.x.k.cell 1; have r2 : w1.cell? ⟨bb + 1 + 1, 2, none⟩ = some (.slice none 0 0) := T1.out.x.k.cell 2; have r3 := T1.out.x.k.frz 0; have r4 := T1.out.x.k.frz 1; have r5 := T1.out.x.k.frz 2)
  have T2 : Hid (TwC w φ φ3 (bb + 1 + 1) (bb + 1 + 1 + 1) #[.bool g1, .slice a1 k1 c1, .slice a2 k2 c2] #[.bool false, .slice none 0 0, .slice none 0 0] (((w1.setCell ⟨bb + 1 + 1, 0, none⟩ (.bool g1)).setCell ⟨bb + 1 + 1, 1, none⟩ (.slice a1 k1 c1)).setCell ⟨bb + 1 + 1, 2, none⟩ (.slice a2 k2 c2))) := Lib.hid (T1.out.put1 _ _ _)
  clear y0 y1 y2 y3 r0 r1 r2 r3 r4 r5 T1 hT0
  generalize ((w1.setCell ⟨bb + 1 + 1, 0, none⟩ (.bool g1)).setCell ⟨bb + 1 + 1, 1, none⟩ (.slice a1 k1 c1)).setCell ⟨bb + 1 + 1, 2, none⟩ (.slice a2 k2 c2) = w2 at *
  obtain ⟨y0, y1, y2, y3⟩ := hbox.out φ3 w2 T2.out.x.inv.fz L3.out
  go_upto_region 5 with (go_at_call 77; (with_reducible refine (fracOf_any hD HM2.out hs.out.2.2.1 hs.out.2.2.2 T2.out.x.inv.fz).mono ?_); rintro e w3 ⟨v, f, φ4, rfl, hf, hi4, hV, g2, a3, k3, c3, a4, k4, c4, rfl⟩; obtain rfl : f = 0 := hf.trans h2.out.1; have HV2 := Lib.hid (hV rfl); have T3 := Lib.hid (T2.out.call hi4); have L4 := Lib.hid hi4.le; clear hf hi4 hV; have r0 : w3.cell? ⟨bb + 1 + 1 + 1, 0, none⟩ = some (.bool false) := T3.out.y.k.cell 0; have r1 : w3.cell? ⟨bb + 1 + 1 + 1, 1, none⟩ = some (.slice none 0 0) := T3.out.y.k.cell 1; have r2 : w3.cell? ⟨bb + 1 + 1 + 1, 2, none⟩ = some (.slice none 0 0) := T3.out.y.k.cell 2; have r3 := T3.out.y.k.frz 0; have r4 := T3.out.y.k.frz 1; have r5 := T3.out.y.k.frz 2)
  have T4 : Hid (TwC w φ φ4 (bb + 1 + 1) (bb + 1 + 1 + 1) #[.bool g1, .slice a1 k1 c1, .slice a2 k2 c2] #[.bool g2, .slice a3 k3 c3, .slice a4 k4 c4] (((w3.setCell ⟨bb + 1 + 1 + 1, 0, none⟩ (.bool g2)).setCell ⟨bb + 1 + 1 + 1, 1, none⟩ (.slice a3 k3 c3)).setCell ⟨bb + 1 + 1 + 1, 2, none⟩ (.slice a4 k4 c4))) := Lib.hid (T3.out.put2 _ _ _)
  have HV3 := Lib.hid (HV1.out.mono L4.out)
  clear y0 y1 y2 y3 r0 r1 r2 r3 r4 r5 T3 T2 HV1 hbox LR
  generalize ((w3.setCell ⟨bb + 1 + 1 + 1, 0, none⟩ (.bool g2)).setCell ⟨bb + 1 + 1 + 1, 1, none⟩ (.slice a3 k3 c3)).setCell ⟨bb + 1 + 1 + 1, 2, none⟩ (.slice a4 k4 c4) = w4 at *
  have p0 : w4.cell? ⟨bb + 1 + 1, 0, none⟩ = some (.bool g1) := T4.out.x.k.cell 0
  have p1 : w4.cell? ⟨bb + 1 + 1, 1, none⟩ = some (.slice a1 k1 c1) := T4.out.x.k.cell 1
  have p2 : w4.cell? ⟨bb + 1 + 1, 2, none⟩ = some (.slice a2 k2 c2) := T4.out.x.k.cell 2
  have q0 : w4.cell? ⟨bb + 1 + 1 + 1, 0, none⟩ = some (.bool g2) := T4.out.y.k.cell 0
  have q1 : w4.cell? ⟨bb + 1 + 1 + 1, 1, none⟩ = some (.slice a3 k3 c3) := T4.out.y.k.cell 1
  have q2 : w4.cell? ⟨bb + 1 + 1 + 1, 2, none⟩ = some (.slice a4 k4 c4) := T4.out.y.k.cell 2
  have u0 := T4.out.x.k.frz 0
  have u1 := T4.out.x.k.frz 1
  have u2 := T4.out.x.k.frz 2
  have u3 := T4.out.y.k.frz 0
  have u4 := T4.out.y.k.frz 1
  have u5 := T4.out.y.k.frz 2
  have T5 : Hid (TwC w φ φ4 (bb + 1 + 1) (bb + 1 + 1 + 1) #[.bool g1, .slice a1 k1 c1, .slice a2 k2 c2] #[.bool g2, .slice a3 k3 c3, .slice a4 k4 c4] (((((((w4.setCell ⟨bb + 1 + 1, 0, none⟩ (.bool g1)).setCell ⟨bb + 1 + 1, 1, none⟩ (.slice a1 k1 c1)).setCell ⟨bb + 1 + 1, 2, none⟩ (.slice a2 k2 c2)).setCell ⟨bb + 1 + 1 + 1, 0, none⟩ (.bool g2)).setCell ⟨bb + 1 + 1 + 1, 1, none⟩ (.slice a3 k3 c3)).setCell ⟨bb + 1 + 1 + 1, 2, none⟩ (.slice a4 k4 c4)).drew)) := Lib.hid (((T4.out.put1 (.bool g1) (.slice a1 k1 c1) (.slice a2 k2 c2)).put2 (.bool g2) (.slice a3 k3 c3) (.slice a4 k4 c4)).callB (bdrewN (Below.refl _ _) 1))
  obtain ⟨d1, d2⟩ := ratF_dims h1.out.1
  obtain ⟨d3, d4⟩ := ratF_dims h2.out.1
  have HV5 := Lib.hid (HV3.out.leC d1 d2)
  have HV6 := Lib.hid (HV2.out.leC d3 d4)
  rw [h1.out.2, hN.out] at HV5
  rw [h2.out.2, hN.out] at HV6
  clear d1 d2 d3 d4 HV2 HV3 T4
  have hfin : ∀ W' : World, TwC w φ φ4 (bb + 1 + 1) (bb + 1 + 1 + 1) #[.bool g1, .slice a1 k1 c1, .slice a2 k2 c2] #[.bool g2, .slice a3 k3 c3, .slice a4 k4 c4] W' → W'.cell? ⟨bb + 1 + 1, 0, none⟩ = some (.bool g1) ∧ W'.cell? ⟨bb + 1 + 1, 1, none⟩ = some (.slice a1 k1 c1) ∧ W'.cell? ⟨bb + 1 + 1, 2, none⟩ = some (.slice a2 k2 c2) ∧ W'.cell? ⟨bb + 1 + 1 + 1, 0, none⟩ = some (.bool g2) ∧ W'.cell? ⟨bb + 1 + 1 + 1, 1, none⟩ = some (.slice a3 k3 c3) ∧ W'.cell? ⟨bb + 1 + 1 + 1, 2, none⟩ = some (.slice a4 k4 c4) := fun W' h => ⟨h.x.k.cell 0, h.x.k.cell 1, h.x.k.cell 2, h.y.k.cell 0, h.y.k.cell 1, h.y.k.cell 2⟩
  have HFIN := Lib.hid hfin
  clear hfin
  go_region
  all_goals
    go_wp2
    clear p0 p1 p2 q0 q1 q2 u0 u1 u2 u3 u4 u5
    generalize ((((((w4.setCell ⟨bb + 1 + 1, 0, none⟩ (.bool g1)).setCell ⟨bb + 1 + 1, 1, none⟩ (.slice a1 k1 c1)).setCell ⟨bb + 1 + 1, 2, none⟩ (.slice a2 k2 c2)).setCell ⟨bb + 1 + 1 + 1, 0, none⟩ (.bool g2)).setCell ⟨bb + 1 + 1 + 1, 1, none⟩ (.slice a3 k3 c3)).setCell ⟨bb + 1 + 1 + 1, 2, none⟩ (.slice a4 k4 c4)).drew = wz at *
    obtain ⟨e0, e1, e2, e3, e4, e5⟩ := HFIN.out _ T5.out
    (try simp only [Exit.inBlock, Exit.then])
    refine bodyPost_ret (v := .tuple #[.agg #[.bool g1, .slice a1 k1 c1, .slice a2 k2 c2], .agg #[.bool g2, .slice a3 k3 c3, .slice a4 k4 c4], .int .i64 0]) (by simp [results, Tryz.results52, go_sem, e0, e1, e2, e3, e4, e5]) rfl ?_
    exact ⟨g1, a1, k1, c1, a2, k2, c2, g2, a3, k3, c3, a4, k4, c4, φ4, rfl, T5.out.x.inv, HV5.out, HV6.out⟩
end Go.Proofs.YtngogjookldidaaGreatDoor

namespace Go.Proofs.YtngogjookldidaaGreatDoor
open Go.RowKit
set_option linter.unusedVariables false
set_option linter.unusedSimpArgs false
set_option maxRecDepth 100000 in
set_option maxHeartbeats 4000000 in
theorem Sum_any {M : Nat} (hD : Hid (DivOk M)) (hM : LenB M) (hM2 : p10 2000 ≤ M) {s1 t1 s2 t2 : ByteArray} (hs : Hid (s1.size ≤ 9223372036854775807 ∧ t1.size ≤ 9223372036854775807 ∧ s2.size ≤ 9223372036854775807 ∧ t2.size ≤ 9223372036854775807)) {x y : Rat} (h1 : Hid (ratF s1 t1 = 0 ∧ ratX s1 t1 = x)) (h2 : Hid (ratF s2 t2 = 0 ∧ ratX s2 t2 = y)) {N : Nat} (hN : Hid (p10 2000 = N)) (hNM : Hid (N * N + N * N ≤ M ∧ N * N ≤ M)) {w : World} {φ : Phi} (hφ : Fz φ w) (hp : PowP φ) {S T : ByteArray} {F : Int} (hR : Hid (ratR (x + y) = (S, T, F))) :
    Calls Tryz.prog 28 #[.agg #[.string s1, .string t1], .agg #[.string s2, .string t2]] w (fun e w' => e = .returned (.tuple #[.agg #[.string S, .string T], .int .i64 F]) ∧ Below w.heap.size w w') := by
  have HM2 := Lib.hid hM2
  have HP := Lib.hid hp
  obtain ⟨φ1, hle1, hi1, hb1⟩ := (Inv.start hφ).frz (.cells #[.string s1, .string t1] 32)
  obtain ⟨φ2, hle2, hi2, hb2⟩ := hi1.frz (.cells #[.string s2, .string t2] 32)
  have hx0 := RsSt.start hi2 #[.string ⟨#[]⟩, .string ⟨#[]⟩] 32
  have HX0 : Hid (RsSt w φ φ2 (w.heap.size + 1 + 1) #[.string ⟨#[]⟩, .string ⟨#[]⟩] 32 (((w.alloc (.cells #[.string s1, .string t1] 32)).alloc (.cells #[.string s2, .string t2] 32)).alloc (.cells #[.string ⟨#[]⟩, .string ⟨#[]⟩] 32))) := Lib.hid (by simpa only [alloc_sz] using hx0)
  have LL := Lib.hid (hle1.trans hle2)
  clear hi1 hi2 hb1 hb2 hle1 hle2 hx0 hφ hp hM2
  go_enter Tryz.func28, Tryz.ntmps28
  go_wp2_with (first
    | (go_at_call 52; (with_reducible refine (two_any hD HM2.out hs h1 h2 hN HX0.out.inv.fz).mono ?_); rintro e w1 ⟨g1, a1, k1, c1, a2, k2, c2, g2, a3, k3, c3, a4, k4, c4, φ3, rfl, hi3, hv1, hv2⟩; have HX1 := Lib.hid (HX0.out.call hi3); have L3 := Lib.hid (LL.out.trans hi3.le); have HV1 := Lib.hid hv1; have HV2 := Lib.hid hv2; clear hi3 hv1 hv2)
    | (go_at_call 53; (with_reducible refine (fplus_any hM ((HX1.out.inv.fz.alloc _).alloc _) HV1.out HV2.out hNM.out.1 hNM.out.2).mono ?_); rintro e w3 ⟨v, φ4, rfl, hi4, hv4⟩; have HX3 := Lib.hid (((HX1.out.callB ((Below.refl _ _).alloc (Nat.le_refl _) _)).callB ((Below.refl _ _).alloc (Nat.le_refl _) _)).call hi4); have L4 := Lib.hid (L3.out.trans hi4.le); obtain ⟨g5, n5, d5, k5, k6, a5, c5, a6, c6, rfl, s5, s6, l5, l6, hd5, hn5, hdd5, hx5⟩ := hv4.open; have HR5 : Hid (ratR (rat g5 n5 d5) = (S, T, F)) := Lib.hid (by rw [hx5]; exact hR.out); have HS5 := Lib.hid s5; have HS6 := Lib.hid s6; have HB5 := Lib.hid (And.intro (Nat.le_trans hn5 hNM.out.1) (And.intro (Nat.le_trans hdd5 hNM.out.2) hd5)); clear hi4 hv4 s5 s6 hd5 hn5 hdd5 hx5)
    | (go_at_call 42; (with_reducible refine (ratio_any hD hM HX3.out.inv.fz (HP.out.mono L4.out) HS5.out HS6.out l5 l6 HB5.out.1 HB5.out.2.1 HB5.out.2.2 HR5).mono ?_); rintro e w5 ⟨rfl, hb5⟩; have HX5 := Lib.hid (HX3.out.callB hb5); clear hb5; have r0 : w5.cell? ⟨w.heap.size + 1 + 1, 0, none⟩ = some (.string ⟨#[]⟩) := HX5.out.k.cell 0; have r1 : w5.cell? ⟨w.heap.size + 1 + 1, 1, none⟩ = some (.string ⟨#[]⟩) := HX5.out.k.cell 1; have r2 := HX5.out.k.frz 0; have r3 := HX5.out.k.frz 1)
    | fail)
  have hZ := Lib.hid ((HX5.out.set 0 (.string S)).set 1 (.string T))
  have e0 : _ = some (Value.string S) := hZ.out.k.cell 0
  have e1 : _ = some (Value.string T) := hZ.out.k.cell 1
  (try simp only [Exit.inBlock, Exit.then])
  refine bodyPost_ret (v := .tuple #[.agg #[.string S, .string T], .int .i64 F]) (by simp [results, Tryz.results28, go_sem, e0, e1]) rfl ?_
  exact ⟨rfl, hZ.out.inv.bel⟩
end Go.Proofs.YtngogjookldidaaGreatDoor

namespace Go.Proofs.YtngogjookldidaaGreatDoor
open Go.RowKit
set_option linter.unusedVariables false
set_option linter.unusedSimpArgs false
attribute [-instance] repNatI
theorem FfX.openC {φ : Phi} {g : Bool} {a1 a2 : Option Addr} {k1 c1 k2 c2 : Nat} {x : Rat} {N D : Nat} (h : FfX φ (.agg #[.bool g, .slice a1 k1 c1, .slice a2 k2 c2]) x N D) : ∃ (n d : Nat), @SlV Nat instRepNat φ a1 c1 (limbs n) ∧ @SlV Nat instRepNat φ a2 c2 (limbs d) ∧ Hid ((limbs n).length = k1) ∧ Hid ((limbs d).length = k2) ∧ 0 < d ∧ n ≤ N ∧ d ≤ D ∧ rat g n d = x := by
  obtain ⟨g', n, d, p1, p2, a1', c1', a2', c2', he, s1, s2, l1, l2, h0, h1, h2, h3⟩ := h.open
  simp only [Value.agg.injEq, Array.mk.injEq, List.cons.injEq, Value.bool.injEq, Value.slice.injEq, and_true] at he
  obtain ⟨rfl, ⟨rfl, rfl, rfl⟩, rfl, rfl, rfl⟩ := he
  exact ⟨n, d, s1, s2, l1, l2, h0, h1, h2, h3⟩
theorem keepT {w : World} {a : Addr} {v u0 u1 : Value} {g : Nat} (h : w.cell? a = some v) (hne : g ≠ a.block) : ((w.setCell ⟨g, 0, none⟩ u0).setCell ⟨g, 1, none⟩ u1).cell? a = some v := keep1 (keep1 h hne) hne
set_option maxRecDepth 100000 in
set_option maxHeartbeats 4000000 in
theorem Product_any {M : Nat} (hD : Hid (DivOk M)) (hM : LenB M) (hM2 : p10 2000 ≤ M) {s1 t1 s2 t2 : ByteArray} (hs : Hid (s1.size ≤ 9223372036854775807 ∧ t1.size ≤ 9223372036854775807 ∧ s2.size ≤ 9223372036854775807 ∧ t2.size ≤ 9223372036854775807)) {x y : Rat} (h1 : Hid (ratF s1 t1 = 0 ∧ ratX s1 t1 = x)) (h2 : Hid (ratF s2 t2 = 0 ∧ ratX s2 t2 = y)) {N : Nat} (hN : Hid (p10 2000 = N)) (hNM : Hid (N * N ≤ M ∧ N ≤ M)) {w : World} {φ : Phi} (hφ : Fz φ w) (hp : PowP φ) {S T : ByteArray} {F : Int} (hR : Hid (ratR (x * y) = (S, T, F))) :
    Calls Tryz.prog 29 #[.agg #[.string s1, .string t1], .agg #[.string s2, .string t2]] w (fun e w' => e = .returned (.tuple #[.agg #[.string S, .string T], .int .i64 F]) ∧ Below w.heap.size w w') := by
  have HM2 := Lib.hid hM2
  have HP := Lib.hid hp
  obtain ⟨φ1, hle1, hi1, hb1⟩ := (Inv.start hφ).frz (.cells #[.string s1, .string t1] 32)
  obtain ⟨φ2, hle2, hi2, hb2⟩ := hi1.frz (.cells #[.string s2, .string t2] 32)
  have hx0 := RsSt.start hi2 #[.string ⟨#[]⟩, .string ⟨#[]⟩] 32
  have HX0 : Hid (RsSt w φ φ2 (w.heap.size + 1 + 1) #[.string ⟨#[]⟩, .string ⟨#[]⟩] 32 (((w.alloc (.cells #[.string s1, .string t1] 32)).alloc (.cells #[.string s2, .string t2] 32)).alloc (.cells #[.string ⟨#[]⟩, .string ⟨#[]⟩] 32))) := Lib.hid (by simpa only [alloc_sz] using hx0)
  have LL := Lib.hid (hle1.trans hle2)
  clear hi1 hi2 hb1 hb2 hle1 hle2 hx0 hφ hp hM2
  go_enter Tryz.func29, Tryz.ntmps29
  go_upto_region 4 with (go_at_call 52; (with_reducible refine (two_any hD HM2.out hs h1 h2 hN HX0.out.inv.fz).mono ?_); rintro e w1 ⟨g1, a1, k1, c1, a2, k2, c2, g2, a3, k3, c3, a4, k4, c4, φ3, rfl, hi3, hv1, hv2⟩; have HX1 := Lib.hid (HX0.out.call hi3); have L3 := Lib.hid (LL.out.trans hi3.le); have HV1 := Lib.hid hv1; have HV2 := Lib.hid hv2; clear hi3 hv1 hv2)
  obtain ⟨φ4, hle4, hi4, hb4⟩ := (Inv.start HX1.out.inv.fz).frz (.cells #[.bool g1, .slice a1 k1 c1, .slice a2 k2 c2] 85)
  obtain ⟨φ5, hle5, hi5, hb5⟩ := hi4.frz (.cells #[.bool g2, .slice a3 k3 c3, .slice a4 k4 c4] 85)
  rw [alloc_sz] at hb5
  have HB1 := Lib.hid (hle5 _ _ hb4)
  have HB2 := Lib.hid hb5
  have HX2a := Lib.hid (HX1.out.call hi5)
  have L5 := Lib.hid (L3.out.trans (hle4.trans hle5))
  obtain ⟨n1, d1, s1', s2', l1, l2, hd1, hn1, hnd1, hx1⟩ := (HV1.out.mono (hle4.trans hle5)).openC
  obtain ⟨n2, d2, s3', s4', l3, l4, hd2, hn2, hnd2, hx2⟩ := (HV2.out.mono (hle4.trans hle5)).openC
  clear hle4 hle5 hi4 hi5 hb4 hb5 HV1 HV2 L3
  obtain ⟨P, hP⟩ : ∃ P, n1 * n2 = P := ⟨_, rfl⟩
  obtain ⟨Q, hQ⟩ : ∃ Q, d1 * d2 = Q := ⟨_, rfl⟩
  have HR : Hid (ratR (rat (!(g1 == g2)) P Q) = (S, T, F)) := Lib.hid (by have := rat_times (s1 := g1) (s2 := g2) (n1 := n1) (n2 := n2) hd1 hd2; rw [hx1, hx2, hP, hQ] at this; rw [show (!(g1 == g2)) = (g1 != g2) from rfl, this]; exact hR.out)
  have hPM : P ≤ M := by rw [← hP]; exact Nat.le_trans (Nat.mul_le_mul hn1 hn2) hNM.out.1
  have hQM : Q ≤ M := by rw [← hQ]; exact Nat.le_trans (Nat.mul_le_mul hnd1 hnd2) hNM.out.1
  have hQ0 : 0 < Q := by rw [← hQ]; exact Nat.mul_pos hd1 hd2
  have q1 : k1 ≤ 1000000000 := by rw [← l1.out]; exact hM.len (Nat.le_trans hn1 hNM.out.2)
  have q2 : k2 ≤ 1000000000 := by rw [← l2.out]; exact hM.len (Nat.le_trans hnd1 hNM.out.2)
  have q3 : k3 ≤ 1000000000 := by rw [← l3.out]; exact hM.len (Nat.le_trans hn2 hNM.out.2)
  have q4 : k4 ≤ 1000000000 := by rw [← l4.out]; exact hM.len (Nat.le_trans hnd2 hNM.out.2)
  have HPP := Lib.hid hP
  have HQ := Lib.hid hQ
  have S1 := Lib.hid s1'
  have S2 := Lib.hid s2'
  have S3 := Lib.hid s3'
  have S4 := Lib.hid s4'
  have HB := Lib.hid (And.intro hPM (And.intro hQM hQ0))
  clear hP hQ hn1 hn2 hnd1 hnd2 hd1 hd2 hx1 hx2 s1' s2' s3' s4' hPM hQM hQ0
  obtain ⟨kp, hkp⟩ : ∃ k, Hid ((limbs P).length = k) := ⟨_, Lib.hid rfl⟩
  obtain ⟨kq, hkq⟩ : ∃ k, Hid ((limbs Q).length = k) := ⟨_, Lib.hid rfl⟩
  have LT := HX1.out.k.lt
  clear HX1 HX0 LL
  generalize (w1.alloc (.cells #[.bool g1, .slice a1 k1 c1, .slice a2 k2 c2] 85)).alloc (.cells #[.bool g2, .slice a3 k3 c3, .slice a4 k4 c4] 85) = wx at *
  obtain ⟨bb, hbb⟩ : ∃ b, w1.heap.size = b := ⟨_, rfl⟩
  obtain ⟨rr, hrr⟩ : ∃ b, w.heap.size + 1 + 1 = b := ⟨_, rfl⟩
  rw [hbb] at HB1 HB2 LT ⊢
  rw [hrr] at HX2a LT ⊢
  have HX2 : Hid (RsSt w φ φ5 rr #[.string ⟨#[]⟩, .string ⟨#[]⟩] 32 wx.drew) := Lib.hid (HX2a.out.callB (bdrewN (Below.refl _ wx) 1))
  clear HX2a
  have LTH := Lib.hid LT
  clear hbb hrr LT
  have hbox := Lib.hid (fun (φ3 : Phi) (W : World) (hl : φ5.le φ3) (h : Hid (RsSt w φ φ3 rr #[.string ⟨#[]⟩, .string ⟨#[]⟩] 32 W)) => and6 (box3 HB1.out hl h.out.inv.fz) (box3 HB2.out hl h.out.inv.fz))
  obtain ⟨x0, x1, x2, x3, x4, x5⟩ := hbox.out _ _ φ5.le_refl HX2
  go_region_held3 (fun w' => w'.cell? ⟨bb, 0, none⟩ = some (.bool g1) ∧ w'.cell? ⟨bb, 1, none⟩ = some (.slice a1 k1 c1) ∧ w'.cell? ⟨bb, 2, none⟩ = some (.slice a2 k2 c2) ∧ w'.cell? ⟨bb + 1, 0, none⟩ = some (.bool g2) ∧ w'.cell? ⟨bb + 1, 1, none⟩ = some (.slice a3 k3 c3) ∧ w'.cell? ⟨bb + 1, 2, none⟩ = some (.slice a4 k4 c4)) (first | with_reducible exact ⟨x0, x1, x2, x3, x4, x5⟩ | with_reducible exact ⟨by assumption, by assumption, by assumption, by assumption, by assumption, by assumption⟩ | exact ⟨keepT (by with_reducible assumption) (show rr ≠ bb from Nat.ne_of_lt LTH.out), keepT (by with_reducible assumption) (show rr ≠ bb from Nat.ne_of_lt LTH.out), keepT (by with_reducible assumption) (show rr ≠ bb from Nat.ne_of_lt LTH.out), keepT (by with_reducible assumption) (show rr ≠ bb + 1 from Nat.ne_of_lt (Nat.lt_succ_of_lt LTH.out)), keepT (by with_reducible assumption) (show rr ≠ bb + 1 from Nat.ne_of_lt (Nat.lt_succ_of_lt LTH.out)), keepT (by with_reducible assumption) (show rr ≠ bb + 1 from Nat.ne_of_lt (Nat.lt_succ_of_lt LTH.out))⟩) (first
    | ((with_reducible refine (ratio_any hD hM H4.out.inv.fz (HP.out.mono (L5.out.trans (L3.out.trans L4.out))) (SP.out.mono L4.out) SQ.out hkp hkq HB.out.1 HB.out.2.1 HB.out.2.2 HR).mono ?_); rintro e w5 ⟨rfl, hb5⟩; have H5 := Lib.hid (H4.out.callB hb5); obtain ⟨y0, y1, y2, y3, y4, y5⟩ := hbox.out _ _ (L3.out.trans L4.out) H5; have z0 : w5.cell? ⟨rr, 0, none⟩ = some (.string ⟨#[]⟩) := H5.out.k.cell 0; have z1 : w5.cell? ⟨rr, 1, none⟩ = some (.string ⟨#[]⟩) := H5.out.k.cell 1; have z2 := H5.out.k.frz 0; have z3 := H5.out.k.frz 1)
    | ((with_reducible refine (times_any (m := d1) (n := d2) H3.out.inv.fz (S2.out.mono L3.out) (S4.out.mono L3.out) l2 l4 (by omega) (by omega)).mono ?_); rintro e w4 ⟨a6, c6, φ7, rfl, hi7, hs7⟩; rw [HQ.out, hkq.out]; rw [HQ.out] at hs7; have H4 := Lib.hid (H3.out.call hi7); have L4 := Lib.hid hi7.le; have SQ := Lib.hid hs7; obtain ⟨y0, y1, y2, y3, y4, y5⟩ := hbox.out _ _ (L3.out.trans L4.out) H4)
    | ((with_reducible refine (times_any (m := n1) (n := n2) HX2.out.inv.fz S1.out S3.out l1 l3 (by omega) (by omega)).mono ?_); rintro e w3 ⟨a5, c5, φ6, rfl, hi6, hs6⟩; rw [HPP.out, hkp.out]; rw [HPP.out] at hs6; have H3 := Lib.hid (HX2.out.call hi6); have L3 := Lib.hid hi6.le; have SP := Lib.hid hs6; obtain ⟨y0, y1, y2, y3, y4, y5⟩ := hbox.out _ _ L3.out H3))
  have hZ := Lib.hid ((H5.out.set 0 (.string S)).set 1 (.string T))
  clear x0 x1 x2 x3 x4 x5 y0 y1 y2 y3 y4 y5 z0 z1 z2 z3 H3 H4 H5
  generalize (w5.setCell ⟨rr, 0, none⟩ (.string S)).setCell ⟨rr, 1, none⟩ (.string T) = wz at *
  go_wp2
  have e0 : wz.cell? ⟨rr, 0, none⟩ = some (Value.string S) := hZ.out.k.cell 0
  have e1 : wz.cell? ⟨rr, 1, none⟩ = some (Value.string T) := hZ.out.k.cell 1
  (try simp only [Exit.inBlock, Exit.then])
  refine bodyPost_ret (v := .tuple #[.agg #[.string S, .string T], .int .i64 F]) (by simp [results, Tryz.results29, go_sem, e0, e1]) rfl ?_
  exact ⟨rfl, hZ.out.inv.bel⟩
end Go.Proofs.YtngogjookldidaaGreatDoor
