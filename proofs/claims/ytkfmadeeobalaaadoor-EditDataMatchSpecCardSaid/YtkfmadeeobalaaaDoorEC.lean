/- The walk of first. The walk of all, once for each closure; the walks of the closure of least, and of least. The walks of the closure of least, and of least. The walks of least, Passes, Least. The walks of Passes, Least, First. Conditions: none beyond what the claim form gives. -/
import Derived.Test.YtkfmadeeobalaaaDoorEB
namespace Go.Proofs.YtkfmadeeobalaaaDoor
open Go.RowKit
set_option linter.unusedVariables false

theorem alloc_size (w : World) (o : Obj) : (w.alloc o).heap.size = w.heap.size + 1 := by simp
theorem Inv.cat {B : Nat} {w0 w w' : World} {φ0 φ1 φ2 : Phi} (h : Inv B w0 φ0 φ1 w) (k : Inv B w0 φ1 φ2 w') : Inv B w0 φ0 φ2 w' := ⟨k.bel, k.base, k.fz, h.le.trans k.le, fun b hb => (k.new b hb).trans (h.new b hb)⟩
theorem slBo : SliceTy Tryd.prog 75 4 (.bool false) (Rep.size Bool) 1 := ⟨Tryd.underlying75, by kernel_rfl, rfl, by decide, by decide⟩
theorem Own.boolsD {B : Nat} {φ : Phi} {w : World} {E : TypeId} {a : Option Addr} {cap : Nat} {xs : List Bool} (h : Own B φ w E a cap xs) {k n : Nat} (hn : Hid (xs.length = n)) (hk : k < n) :
    ∃ g, a = some ⟨g, 0, none⟩ ∧ g < w.heap.size ∧ ∀ k, k < n → w.cell? ⟨g, k, none⟩ = some (.bool (xs.getD k false)) ∧ w.frozen? ⟨g, k, none⟩ = false ∧
      ∀ y w0 φ0, Inv B w0 φ0 φ w → Own B φ (w.setCell ⟨g, k, none⟩ (.bool y)) E a cap (xs.set k y) ∧ Inv B w0 φ0 φ (w.setCell ⟨g, k, none⟩ (.bool y)) := by
  obtain ⟨g, rfl, _, hg, _, hf, hc⟩ := h.elem (k := k) (by rw [hn.out]; exact hk)
  refine ⟨g, rfl, hg, fun k hk => ?_⟩
  have hk' : k < xs.length := by rw [hn.out]; exact hk
  obtain ⟨cs, hcs, hj⟩ := hc k hk'
  have hcs' : cs = [.bool xs[k]] := hcs
  subst hcs'
  have h0 := hj 0 (by simp)
  simp [Rep.size] at h0
  refine ⟨by rw [h0, getD_elem0 _ _ _ hk'], hf k, fun y w0 φ0 hi => ?_⟩
  have := h.setCell hi hk' (y := y) (j := 0) (u := .bool y) hj rfl (by simp) rfl
  simpa [Rep.size] using this
theorem frB_nil (n : Nat) : frB n [] = List.replicate n false := by
  unfold frB
  apply List.ext_getElem
  · simp
  · intro i h1 h2; simp
theorem frB_step {n k : Nat} {free : List Int} {j : Nat} (hk : k < free.length) (hj : free.getD k 0 = (j : Int)) (hjn : j < n) : (frB n (free.take k)).set j true = frB n (free.take (k + 1)) := by
  rw [getD_elem0 _ _ _ hk] at hj
  rw [take_snoc free k hk, hj]
  apply List.ext_getElem
  · rw [List.length_set, frB_len, frB_len]
  · intro i h1 h2
    rw [List.getElem_set]
    unfold frB
    by_cases e : j = i
    · subst e; simp
    · rw [if_neg e]
      simp
      intro h
      omega
def OwnPostN (n : Nat) (xs : List Int) (φ : Phi) (w : World) (e : Ending) (w' : World) : Prop :=
  ∃ a cap, e = .returned (.slice a n cap) ∧ Inv w.heap.size w φ φ w' ∧ Own w.heap.size φ w' 3 a cap xs
theorem Clone_n {w : World} {ac : Option Addr} {cc nc : Nat} {cs : List Int} {φ : Phi} (hφ : Fz φ w) (sc : SlV φ ac cc cs) (hnc : Hid (cs.length = nc)) (hmc : nc ≤ 1000000) :
    Calls Tryd.prog 72 #[.slice ac nc cc] w (OwnPostN nc cs φ w) := by
  have := Clone_any hφ sc hnc hmc
  unfold OwnPost at this
  rw [hnc.out] at this
  exact this
def FirstPost (q : List Int × Bool) (φ : Phi) (w : World) (e : Ending) (w' : World) : Prop :=
  ∃ φ' a cap, e = .returned (.tuple #[.slice a q.1.length cap, .bool q.2]) ∧ Inv w.heap.size w φ φ' w' ∧ SlV φ' a cap q.1
set_option maxRecDepth 100000 in
set_option maxHeartbeats 2000000 in
theorem first_any
  {φ : Phi} {br : Nat} {fs : List Fld} {es : List Edt} {n m : Nat} {a : Option Addr} {cap : Nat} {ae : Option Addr} {ce : Nat} {ab : Option Addr} {cb : Nat} (R : RulV φ br fs es n m a cap ae ce ab cb)
    (w : World) (hφ : Fz φ w) (a1 : Option Addr) (c1 : Nat) (rec : List Int) (sr : SlV φ a1 c1 rec) (hrl : Hid (rec.length = n)) (nf : Nat) (a2 : Option Addr) (c2 : Nat) (free : List Int) (sf : SlV φ a2 c2 free) (hfl : Hid (free.length = nf)) (hmf : nf ≤ 9223372036854775807) (hfr : Hid (∀ k ∈ free, 0 ≤ k ∧ k < n)) {q : List Int × Bool} (hq : Hid (firstS fs es n m rec free = q)) :
    Calls Tryd.prog 75 #[.pointer (some ⟨br, 0, none⟩), .slice a1 n c1, .slice a2 nf c2] w (FirstPost q φ w) := by
  have hn12 := R.ok.pos
  obtain ⟨ql, qb⟩ := q
  have hK1 : Hid (Blk (w.alloc (.cells #[.pointer (some ⟨br, 0, none⟩)] 63)) w.heap.size #[.pointer (some ⟨br, 0, none⟩)] 63) := Lib.hid (Blk.new w _ _)
  have hI1 : Hid (Inv w.heap.size w φ φ (w.alloc (.cells #[.pointer (some ⟨br, 0, none⟩)] 63))) := Lib.hid ((Inv.start hφ).alloc _)
  go_enter Tryd.func75, Tryd.ntmps75
  go_wp2_with (at_make; refine wpList_mkn (α := Bool) rfl _ _ 75 rfl slBo hI1.out _ _ n false (fun _ => rfl) rfl rfl rfl (by omega) ?_; intro w1 hi1 hown1 hg1)
  have HI := Lib.hid hi1
  have HO := Lib.hid hown1
  have HK := Lib.hid ((hg1.block w.heap.size hK1.out.lt (by simp)).trans hK1.out)
  clear hi1 hown1 hg1 hK1 hI1
  rw [← frB_nil, alloc_size] at HO
  generalize hb1 : w.heap.size = b1 at *
  replace hb1 := Lib.hid hb1
  have HS : Hid (Inv b1 w φ φ w1 ∧ Own b1 φ w1 4 (some ⟨b1 + 1, 0, none⟩) n (frB n (free.take 0)) ∧ Blk w1 b1 #[.pointer (some ⟨br, 0, none⟩)] 63) := Lib.hid ⟨HI.out, by rw [List.take_zero]; exact HO.out, HK.out⟩
  clear HI HO HK
  go_loopw [18] (fun i wr => ∃ k : Nat, k ≤ nf ∧ i = .int .i64 k ∧ Hid (Inv b1 w φ φ wr ∧ Own b1 φ wr 4 (some ⟨b1 + 1, 0, none⟩) n (frB n (free.take k)) ∧ Blk wr b1 #[.pointer (some ⟨br, 0, none⟩)] 63)) (fun i _ => nf - (intOf i).toNat)
  case atStart => exact ⟨0, Nat.zero_le _, rfl, HS⟩
  case round =>
    clear HS
    obtain ⟨k, hk, rfl, hS⟩ := hrel
    by_cases hlt : k < nf
    · obtain ⟨b2, o2, rfl, f2⟩ := sf.intsD hfl hlt
      have d2 := (f2 k hlt wr hS.out.1.fz).2
      have hx := hfr.out (free.getD k 0) (by rw [getD_elem0 _ _ _ (by rw [hfl.out]; exact hlt)]; exact List.getElem_mem _)
      have HST := Lib.hid (fun (j : Nat) (h : free.getD k 0 = (j : Int)) (h2 : j < n) => frB_step (n := n) (by rw [hfl.out]; exact hlt) h h2)
      clear f2
      generalize free.getD k 0 = x at *
      obtain ⟨j, rfl⟩ : ∃ j : Nat, x = j := ⟨x.toNat, by omega⟩
      have hj : j < n := by omega
      have H2 := Lib.hid (HST.out j rfl hj)
      clear HST hx
      obtain ⟨g, hg, hgl, fO⟩ := hS.out.2.1.boolsD (Lib.hid (frB_len n _)) hj
      cases hg
      obtain ⟨d3, d4, hst⟩ := fO j hj
      have HST := Lib.hid (hst true w φ hS.out.1)
      have hne : b1 + 1 ≠ b1 := by omega
      have HNE := Lib.hid hne
      clear fO hst hne
      go_wp2
      go_roundw
      case rel => exact ⟨k + 1, by omega, by go_num, Lib.hid ⟨HST.out.2, by rw [← H2.out]; exact HST.out.1, hS.out.2.2.other HNE.out _⟩⟩
      case measure => (simp [intOf] <;> omega)
    · obtain rfl : k = nf := by omega
      have hS3 := Lib.hid hS.out.1
      have hO3 := Lib.hid hS.out.2.1
      have hK3 := Lib.hid hS.out.2.2
      rw [← hfl.out, List.take_length] at hO3
      obtain ⟨φ2, l2, hi2, s2, f2⟩ := hO3.out.release hS3.out
      have L2 := Lib.hid l2
      have I2 := Lib.hid (hi2.alloc (.cells #[.slice none 0 0] 32))
      have S2 := Lib.hid s2
      have hlo := hi2.size
      have hb2 : φ2 wr.heap.size = none := hi2.fz.new_none (Nat.le_refl _)
      have HB2 := Lib.hid hb2
      have K1 := Lib.hid (hK3.out.alloc (.cells #[.slice none 0 0] 32))
      have K2 := Lib.hid (Blk.new wr #[.slice none 0 0] 32)
      have hbb : b1 < wr.heap.size := hK3.out.lt
      have R2 := R.mono L2.out
      have sr2 := sr.mono L2.out
      clear l2 hi2 s2 f2 hb2 hS3 hO3 hK3 hS
      go_wp2
      have c3 : (wr.alloc (.cells #[.slice none 0 0] 32)).cell? ⟨b1, 0, none⟩ = some (.pointer (some ⟨br, 0, none⟩)) := K1.out.cell 0
      generalize hwy : wr.alloc (.cells #[.slice none 0 0] 32) = wy at *
      replace hwy := Lib.hid hwy
      generalize wr.heap.size = b2 at *
      have hsz : b2 < wy.heap.size := K2.out.lt
      have HG := Lib.hid (fun (g : Nat) (hg : wy.heap.size ≤ g) => I2.out.fz.new_none hg)
      go_region_with (first
        | (go_at_call 72; refine (Clone_n (cs := rec) (φ := φ2) (by first | exact I2.out.fz | exact I2.out.drew.fz | exact I2.out.drew.drew.fz) sr2 hrl (by omega)).mono ?_; rintro e w5 ⟨a5, c5, rfl, hi5, ho5⟩; have hbel' : Below wy.heap.size wy w5 := (by first | exact hi5.bel | exact ((Below.refl _ _).drew).trans hi5.bel | exact ((Below.refl _ _).drew.drew).trans hi5.bel); have c5' : w5.cell? ⟨b1, 0, none⟩ = some (.pointer (some ⟨br, 0, none⟩)) := (K1.out.callB hbel').cell 0)
        | (go_at_call 68; go_loud (
           have hbel := hbel'
           obtain ⟨g5, rfl, hgb, hgl, hgn, _⟩ := ho5.elem (k := 0) (by rw [hrl.out]; omega)
           have hgb2 : wy.heap.size ≤ g5 := hgb
           refine (each_first (R2) (σ := List Int) (J := FiJ b1 w φ2 br g5 b1 b2) (V := firstV fs es n m) (p1 := b1) (p2 := b2) S2.out (Lib.hid (frB_len n free)) (fun s w h => h.h.inv) (fun s w k v h => h.row k v) (fun x s w hx hJ hO => firstC_any R2 x s w hx hJ hO) n 0 rfl (Nat.zero_le _) 0 rfl rec [] w5 hrl ⟨HoldS.start ((I2.out.callB hbel).toSelf) (K2.out.callB hbel) (HG.out g5 hgb2) HB2.out (Nat.le_of_lt hbb) (by omega) hgl, K1.out.callB hbel, hbb⟩ (ho5.base I2.out.size) hq).mono ?_
           rintro e w6 ⟨x6, rfl, hx6, hJ6, hO6, _⟩
           obtain ⟨φ3, a6, c6, l6, hi6, s6, k6⟩ := hJ6.h.out
           have c7 : w6.cell? ⟨b2, 0, none⟩ = some (.slice a6 ql.length c6) := k6.cell 0)))
      all_goals
        clear hgn hJ6 hO6 hi5 ho5 c5'
        go_wp2
        go_ret2
        exact ⟨φ3, a6, c6, rfl, by rw [hb1.out]; exact I2.out.cat hi6, s6⟩
end Go.Proofs.YtkfmadeeobalaaaDoor

namespace Go.Proofs.YtkfmadeeobalaaaDoor
open Go.RowKit
set_option linter.unusedVariables false

def onB (n k : Nat) : List Bool := (List.range n).map (fun i : Nat => decide (i < k))
theorem onB_len (n k : Nat) : (onB n k).length = n := by unfold onB; simp
theorem onB_nil (n : Nat) : onB n 0 = List.replicate n false := by
  unfold onB; apply List.ext_getElem
  · simp
  · intro i h1 h2; simp
theorem onB_all (n : Nat) : onB n n = List.replicate n true := by
  unfold onB; apply List.ext_getElem
  · simp
  · intro i h1 h2; simp at h1; simp [h1]
theorem onB_step {n k : Nat} : (onB n k).set k true = onB n (k + 1) := by
  apply List.ext_getElem
  · rw [List.length_set, onB_len, onB_len]
  · intro i h1 h2
    rw [List.getElem_set]
    simp only [onB, List.getElem_map, List.getElem_range]
    by_cases e : k = i
    · subst e; simp
    · rw [if_neg e, decide_eq_decide]; omega
def AllPost {σ : Type} (J : Nat → Phi → σ → World → Prop) (φ : Phi) (q : σ × Bool) (e : Ending) (w' : World) : Prop :=
  e = .returned (.bool q.2) ∧ ∃ g φ2, φ.le φ2 ∧ J g φ2 q.1 w'
set_option maxRecDepth 100000 in
set_option maxHeartbeats 1000000 in
theorem all_least
  {φ : Phi} {br : Nat} {fs : List Fld} {es : List Edt} {n m : Nat} {a : Option Addr} {cap : Nat} {ae : Option Addr} {ce : Nat} {ab : Option Addr} {cb : Nat} (R : RulV φ br fs es n m a cap ae ce ab cb)
    {σ : Type} {J : Nat → Phi → σ → World → Prop} {V : List Int → σ → σ × Bool} {B : Nat} {w0 : World} {p1 p2 p3 p4 p5 : Nat} (w : World) (s : σ) (hB : B ≤ w.heap.size) (hφ : Fz φ w)
    (h0 : ∀ g φ2 w', φ.le φ2 → Inv w.heap.size w φ φ2 w' → w.heap.size ≤ g → g < w'.heap.size → φ2 g = none → J g φ2 s w')
    (hi : ∀ g φ2 s w, J g φ2 s w → Inv B w0 φ2 φ2 w) (hset : ∀ g φ2 s w k v, J g φ2 s w → J g φ2 s (w.setCell ⟨g, k, none⟩ v))
    (hV : ∀ g c φ2, φ.le φ2 → ∀ x s w, Hid (x.length = n) → J g φ2 s w → Own B φ2 w 3 (some ⟨g, 0, none⟩) c x → Calls Tryd.prog 70 #[.slice (some ⟨g, 0, none⟩) n c, .pointer (some ⟨p1, 0, none⟩), .pointer (some ⟨p2, 0, none⟩), .pointer (some ⟨p3, 0, none⟩), .pointer (some ⟨p4, 0, none⟩), .pointer (some ⟨p5, 0, none⟩)] w (fun e w' => e = .returned (.bool (V x s).2) ∧ J g φ2 (V x s).1 w' ∧ Own B φ2 w' 3 (some ⟨g, 0, none⟩) c x))
    {q : σ × Bool} (hq : Hid (foldU V (comps fs (List.replicate n true) n 0 (List.replicate n 0)) s = q)) :
    Calls Tryd.prog 24 #[.pointer (some ⟨br, 0, none⟩), .func (.func 70) #[] #[.pointer (some ⟨p1, 0, none⟩), .pointer (some ⟨p2, 0, none⟩), .pointer (some ⟨p3, 0, none⟩), .pointer (some ⟨p4, 0, none⟩), .pointer (some ⟨p5, 0, none⟩)]] w (AllPost J φ q) := by
  have hn12 := R.ok.pos
  have r0 : w.cell? ⟨br, 0, none⟩ = some (.slice a n cap) := (R.blk hφ).cell 0
  go_enter Tryd.func24, Tryd.ntmps24
  go_wp2_with (at_make; refine wpList_mkn (α := Bool) rfl _ _ 75 rfl slBo (Inv.start hφ) _ _ n false (fun _ => rfl) rfl rfl rfl (by omega) ?_; intro w1 hi1 hown1 hg1)
  rw [← onB_nil] at hown1
  have HS : Hid (Inv w.heap.size w φ φ w1 ∧ Own w.heap.size φ w1 4 (some ⟨w.heap.size, 0, none⟩) n (onB n 0)) := Lib.hid ⟨hi1, hown1⟩
  have H0 := Lib.hid h0
  clear hi1 hown1 hg1 r0 h0
  generalize hbf : w.heap.size = bf at *
  replace hbf := Lib.hid hbf
  go_loopw [18] (fun i wr => ∃ k : Nat, k ≤ n ∧ i = .int .i64 k ∧ Hid (Inv bf w φ φ wr ∧ Own bf φ wr 4 (some ⟨bf, 0, none⟩) n (onB n k))) (fun i _ => n - (intOf i).toNat)
  case atStart => exact ⟨0, Nat.zero_le _, rfl, HS⟩
  case round =>
    clear HS
    obtain ⟨k, hk, rfl, hS⟩ := hrel
    by_cases hlt : k < n
    · obtain ⟨g, hg, hgl, fO⟩ := hS.out.2.boolsD (Lib.hid (onB_len n _)) hlt
      cases hg
      obtain ⟨d3, d4, hst⟩ := fO k hlt
      have HST := Lib.hid (hst true w φ hS.out.1)
      clear fO hst
      go_wp2
      go_roundw
      case rel => exact ⟨k + 1, by omega, by go_num, Lib.hid ⟨HST.out.2, by rw [← onB_step]; exact HST.out.1⟩⟩
      case measure => (simp [intOf] <;> omega)
    · obtain rfl : k = n := by omega
      have hO3 := hS.out.2
      rw [onB_all] at hO3
      obtain ⟨φ2, l2, hi2, s2, f2⟩ := hO3.release hS.out.1
      have L2 := Lib.hid l2
      have I2 := Lib.hid hi2
      have S2 := Lib.hid s2
      have R2 := R.mono L2.out
      clear l2 hi2 s2 f2 hO3 hS
      go_wp2_with (at_make; refine wpList_mkn (α := Int) rfl _ _ 32 rfl slI I2.out _ _ k 0 (fun _ => rfl) rfl rfl rfl (by omega) ?_; intro w3 hi3 hown3 hg3)
      have hsz := I2.out.size
      have hgn := (hown3.free _ rfl)
      have hgl := (hown3.lt _ rfl).2
      have HJ := Lib.hid (H0.out wr.heap.size φ2 w3 L2.out hi3 hsz hgl hgn)
      have HO := Lib.hid (hown3.base hB)
      clear hi3 hown3 hg3 hgn hgl
      generalize wr.heap.size = g at *
      go_wp2_with (go_at_call 68; refine (each_least (R2) (J := J g φ2) (V := V) S2.out (Lib.hid (List.length_replicate)) (fun s w h => hi g φ2 s w h) (fun s w k v h => hset g φ2 s w k v h) (fun x s w hx hJ hO => hV g k φ2 L2.out x s w hx hJ hO) k 0 rfl (Nat.zero_le _) 0 rfl (List.replicate k 0) s w3 (Lib.hid (List.length_replicate)) HJ.out HO.out hq).mono ?_; rintro e w6 ⟨x6, rfl, hx6, hJ6, hO6, _⟩)
      go_ret
      exact ⟨rfl, g, φ2, L2.out, hJ6⟩
end Go.Proofs.YtkfmadeeobalaaaDoor

namespace Go.Proofs.YtkfmadeeobalaaaDoor
open Go.RowKit
set_option linter.unusedVariables false

theorem leastV_eq {fs : List Fld} {es : List Edt} {n m : Nat} {rec x : List Int} {s : LSt} {L : List Int} {W q : Int} {nL nb nf : Nat} (hL : apL rec x n = L) (hW : wSum fs L = W) (hn : L.length = nL) (hb : s.1.length = nb) (hq : cmpI L s.1 = q) (hf : (failL es x n m).length = nf) :
    leastV fs es n m rec x s = (if (s.2.2 = false ∨ W < s.2.1 ∨ (W = s.2.1 ∧ (nL < nb ∨ (nL = nb ∧ q < 0)))) ∧ nf = 0 then (L, W, true) else s, false) := by
  unfold leastV
  rw [hL, hW, hn, hb, hq, hf]
  simp
/-- The state of least's closure. -/
structure LeJ (B : Nat) (w0 : World) (br : Nat) (rv : Value) (b2 b3 b6 b7 b8 g : Nat) (φ : Phi) (s : LSt) (w : World) : Prop where
  h : HoldS B w0 φ g b6 32 s.1 w
  k2 : Blk w b2 #[.pointer (some ⟨br, 0, none⟩)] 63
  k3 : Blk w b3 #[rv] 32
  k7 : Blk w b7 #[.int .i64 s.2.1] 3
  k8 : Blk w b8 #[.bool s.2.2] 4
  f7 : φ b7 = none
  f8 : φ b8 = none
  lt : b2 < b6 ∧ b3 < b6 ∧ b6 < b7 ∧ b7 < b8 ∧ b8 < g
section
variable {B : Nat} {w0 w w' : World} {br b2 b3 b6 b7 b8 g : Nat} {rv : Value} {φ : Phi} {s : LSt}
theorem LeJ.callB (h : LeJ B w0 br rv b2 b3 b6 b7 b8 g φ s w) (hb : Below w.heap.size w w') : LeJ B w0 br rv b2 b3 b6 b7 b8 g φ s w' :=
  ⟨h.h.callB hb, h.k2.callB hb, h.k3.callB hb, h.k7.callB hb, h.k8.callB hb, h.f7, h.f8, h.lt⟩
theorem LeJ.row (h : LeJ B w0 br rv b2 b3 b6 b7 b8 g φ s w) (k : Nat) (v : Value) : LeJ B w0 br rv b2 b3 b6 b7 b8 g φ s (w.setCell ⟨g, k, none⟩ v) := by
  have lt := h.lt
  exact ⟨h.h.row k v, h.k2.other (by show g ≠ b2; omega) v, h.k3.other (by show g ≠ b3; omega) v, h.k7.other (by show g ≠ b7; omega) v, h.k8.other (by show g ≠ b8; omega) v, h.f7, h.f8, lt⟩
theorem LeJ.put (h : LeJ B w0 br rv b2 b3 b6 b7 b8 g φ s w) (hb : Below w.heap.size w w') {ψ : Phi} {a : Option Addr} {c : Nat} {l : List Int} (ho : Own w.heap.size ψ w' 3 a c l) (lw : Int) :
    LeJ B w0 br rv b2 b3 b6 b7 b8 g φ (l, lw, true) (((w'.setCell ⟨b6, 0, none⟩ (.slice a l.length c)).setCell ⟨b7, 0, none⟩ (.int .i64 lw)).setCell ⟨b8, 0, none⟩ (.bool true)) := by
  have lt := h.lt
  have lo := h.h.lo
  refine ⟨((h.h.put hb ho).set (by omega) (by omega) h.f7 (by omega) _).set (by omega) (by omega) h.f8 (by omega) _, ?_, ?_, ?_, ?_, h.f7, h.f8, lt⟩
  · exact (((h.k2.callB hb).other (by show b6 ≠ b2; omega) _).other (by show b7 ≠ b2; omega) _).other (by show b8 ≠ b2; omega) _
  · exact (((h.k3.callB hb).other (by show b6 ≠ b3; omega) _).other (by show b7 ≠ b3; omega) _).other (by show b8 ≠ b3; omega) _
  · exact (((h.k7.callB hb).other (by show b6 ≠ b7; omega) _).set 0 _).other (by show b8 ≠ b7; omega) _
  · exact (((h.k8.callB hb).other (by show b6 ≠ b8; omega) _).other (by show b7 ≠ b8; omega) _).set 0 _
end
theorem Own.set_ne {α : Type} [Rep α] {B : Nat} {φ : Phi} {w : World} {E : TypeId} {g cap : Nat} {xs : List α} (h : Own B φ w E (some ⟨g, 0, none⟩) cap xs) {b k : Nat} {v : Value} (hne : g ≠ b) : Own B φ (w.setCell ⟨b, k, none⟩ v) E (some ⟨g, 0, none⟩) cap xs :=
  h.other (grown_set _ _ _ _) (fun y hy e => by cases hy; have e2 : g = b := Option.some.inj e; exact hne e2)
def ApPostN (fs : List Fld) (xs : List Int) (k : Nat) (W : Int) (φ : Phi) (w : World) (e : Ending) (w' : World) : Prop :=
  ∃ a cap, e = .returned (.tuple #[.slice a k cap, .int .i64 W]) ∧ Inv w.heap.size w φ φ w' ∧ Own w.heap.size φ w' 3 a cap xs
theorem ApPost.toN {fs : List Fld} {xs : List Int} {k : Nat} {W : Int} {φ : Phi} {w : World} {e : Ending} {w' : World} (hk : xs.length = k) (hW : wSum fs xs = W) (h : ApPost fs xs φ w e w') : ApPostN fs xs k W φ w e w' := by subst hk; subst hW; exact h
theorem OwnPost.toN {xs : List Int} {k : Nat} {φ : Phi} {w : World} {e : Ending} {w' : World} (hk : xs.length = k) (h : OwnPost xs φ w e w') : OwnPostN k xs φ w e w' := by subst hk; exact h
set_option maxHeartbeats 4000000 in
theorem leastC_any
  {φ : Phi} {br : Nat} {fs : List Fld} {es : List Edt} {n m : Nat} {a : Option Addr} {cap : Nat} {ae : Option Addr} {ce : Nat} {ab : Option Addr} {cb : Nat} (R : RulV φ br fs es n m a cap ae ce ab cb)
    {B : Nat} {w0 : World} {b2 b3 b6 b7 b8 g c : Nat} {a3 : Option Addr} {c3 : Nat} {rec : List Int} (sr : SlV φ a3 c3 rec) (hrl : Hid (rec.length = n)) (x : List Int) (s : LSt) (w : World) (hx : Hid (x.length = n)) (hJ : LeJ B w0 br (.slice a3 n c3) b2 b3 b6 b7 b8 g φ s w) (hO : Own B φ w 3 (some ⟨g, 0, none⟩) c x) :
    Calls Tryd.prog 70 #[.slice (some ⟨g, 0, none⟩) n c, .pointer (some ⟨b2, 0, none⟩), .pointer (some ⟨b3, 0, none⟩), .pointer (some ⟨b8, 0, none⟩), .pointer (some ⟨b7, 0, none⟩), .pointer (some ⟨b6, 0, none⟩)] w (VisPost (LeJ B w0 br (.slice a3 n c3) b2 b3 b6 b7 b8 g φ) B φ g c x (leastV fs es n m rec x s)) := by
  have hn12 := R.ok.pos
  obtain ⟨φx, hle, hix, sx, _⟩ := hO.release hJ.h.inv
  have Rx := R.mono hle
  have srx := sr.mono hle
  have hfx := Lib.hid hix.fz
  obtain ⟨φ3, a6, c6, l3, z3, n3, s3, k6⟩ := hJ.h.ex
  have Z3 := Lib.hid z3
  obtain ⟨L, hL⟩ : ∃ L, Hid (apL rec x n = L) := ⟨_, Lib.hid rfl⟩
  obtain ⟨W, hW⟩ : ∃ W, Hid (wSum fs L = W) := ⟨_, Lib.hid rfl⟩
  obtain ⟨nL, hnL⟩ : ∃ k, Hid (L.length = k) := ⟨_, Lib.hid rfl⟩
  obtain ⟨b, lw, fo⟩ := s
  dsimp only at s3 k6
  obtain ⟨nb, hnb⟩ : ∃ k, Hid (b.length = k) := ⟨_, Lib.hid rfl⟩
  obtain ⟨q, hq⟩ : ∃ k, Hid (cmpI L b = k) := ⟨_, Lib.hid rfl⟩
  obtain ⟨nf, hnf⟩ : ∃ k, Hid ((failL es x n m).length = k) := ⟨_, Lib.hid rfl⟩
  have hv : Hid (leastV fs es n m rec x (b, lw, fo) = _) := Lib.hid (leastV_eq (s := (b, lw, fo)) hL.out hW.out hnL.out hnb.out hq.out hnf.out)
  dsimp only at hv
  have hnLb : nL ≤ n := by have := apL_len rec x n; rw [hL.out, hnL.out] at this; exact this
  have hbb := s3.capn
  have hbm := s3.capm
  rw [hnb.out] at hbb k6
  unfold maxLen at hbm
  have JH := Lib.hid hJ
  have OH := Lib.hid hO
  have K6 := Lib.hid k6
  have d1 : w.cell? ⟨b2, 0, none⟩ = some (.pointer (some ⟨br, 0, none⟩)) := hJ.k2.cell 0
  have d2 : w.cell? ⟨b3, 0, none⟩ = some (.slice a3 n c3) := hJ.k3.cell 0
  clear hJ hO hle hix z3 n3 l3 k6
  go_enter Tryd.func70, Tryd.ntmps70
  go_wp2_with fail
  refine ((apart_any Rx w hfx.out a3 c3 rec srx hrl _ c x sx hx).mono (fun e w' h => ApPost.toN (k := nL) (W := W) (by rw [hL.out]; exact hnL.out) (by rw [hL.out]; exact hW.out) h)).mono ?_
  rintro e w1 ⟨aL, cL, rfl, hi1, ho1⟩
  rw [hL.out] at ho1
  obtain ⟨φL, lL, hiL, sL, _⟩ := ho1.release hi1
  have HL := Lib.hid hiL.fz
  have HO1 := Lib.hid ho1
  have HI1 := Lib.hid hi1
  have J1 := JH.out.callB hi1.bel
  have e2 : w1.cell? ⟨b2, 0, none⟩ = some (.pointer (some ⟨br, 0, none⟩)) := J1.k2.cell 0
  have e6 : w1.cell? ⟨b6, 0, none⟩ = some (.slice a6 nb c6) := (K6.out.callB hi1.bel).cell 0
  have e7 : w1.cell? ⟨b7, 0, none⟩ = some (.int .i64 lw) := J1.k7.cell 0
  have e8 : w1.cell? ⟨b8, 0, none⟩ = some (.bool fo) := J1.k8.cell 0
  have Z31 := Lib.hid (Z3.out.below hi1.bel)
  have FX1 := Lib.hid (hfx.out.below hi1.bel)
  clear hiL lL ho1 hi1 J1 d1 d2
  cases fo
  case false =>
    go_wp2_with (first
      | (go_at_call 71; (refine (Compare_any _ aL cL L _ a6 c6 b w1 φL φ3 HL.out Z31.out sL hnL (by omega) s3 hnb (by omega) hq).mono ?_; rintro e w' ⟨rfl, rfl⟩))
      | (go_at_call 37; (refine ((fails_any Rx w1 FX1.out _ c x sx hx).mono (fun e w' h => OwnPost.toN (k := nf) hnf.out h)).mono ?_; rintro e w2 ⟨aF, cF, rfl, hi2, ho2⟩; have hb2 := Lib.hid (HI1.out.bel.trans (hi2.bel.mono HI1.out.bel.size)); have HO2 := Lib.hid (HO1.out.callB hi2.bel); have J2 := JH.out.callB hb2.out; have k6' := (K6.out.callB hb2.out).cell 0; have q7 := (J2.k7.other (by show b6 ≠ b7; have := J2.lt; omega) (.slice aL nL cL) : Blk (w2.setCell ⟨b6, 0, none⟩ (.slice aL nL cL)) b7 _ _); have q8 := ((J2.k8.other (by show b6 ≠ b8; have := J2.lt; omega) (.slice aL nL cL)).other (by show b7 ≠ b8; have := J2.lt; omega) (.int .i64 W) : Blk ((w2.setCell ⟨b6, 0, none⟩ (.slice aL nL cL)).setCell ⟨b7, 0, none⟩ (.int .i64 W)) b8 _ _); have k7' := q7.cell 0; have k8' := q8.cell 0; have k6f : w2.frozen? ⟨b6, 0, none⟩ = false := (K6.out.callB hb2.out).frz 0; have k7f := q7.frz 0; have k8f := q8.frz 0; clear q7 q8; clear hi2 ho2 J2)))
    all_goals
      go_ret
      first
        | (have h0 : ((nf : Int) == 0) = true := by assumption
           have h1 : nf = 0 := by have h2 := eq_of_beq h0; omega
           rw [hv.out, if_pos (And.intro (by first | exact .inl rfl | exact .inl trivial | (right; omega) | (right; simp only [true_and]; omega)) h1)]
           have P := Lib.hid (JH.out.put hb2.out HO2.out W)
           rw [hnL.out] at P
           have lt := JH.out.lt
           exact ⟨rfl, P.out, (((OH.out.callB hb2.out).set_ne (by omega)).set_ne (by omega)).set_ne (by omega)⟩)
        | (rw [hv.out, if_neg (fun h => by
             have h' : ((nf : Int) == 0) = false := by assumption
             rw [h.2] at h'
             simp at h')]
           exact ⟨rfl, JH.out.callB hb2.out, OH.out.callB hb2.out⟩)
        | (rw [hv.out, if_neg (fun h => by
             rcases h.1 with h0 | h0
             · cases h0
             · first | omega | (simp only [true_and] at h0; omega))]
           exact ⟨rfl, JH.out.callB HI1.out.bel, OH.out.callB HI1.out.bel⟩)
  case true =>
    by_cases e1 : W = lw
    · subst e1
      by_cases e2 : nL = nb
      · subst e2
        go_wp2_with (first
          | (go_at_call 71; (refine (Compare_any _ aL cL L _ a6 c6 b w1 φL φ3 HL.out Z31.out sL hnL (by omega) s3 hnb (by omega) hq).mono ?_; rintro e w' ⟨rfl, rfl⟩))
          | (go_at_call 37; (refine ((fails_any Rx w1 FX1.out _ c x sx hx).mono (fun e w' h => OwnPost.toN (k := nf) hnf.out h)).mono ?_; rintro e w2 ⟨aF, cF, rfl, hi2, ho2⟩; have hb2 := Lib.hid (HI1.out.bel.trans (hi2.bel.mono HI1.out.bel.size)); have HO2 := Lib.hid (HO1.out.callB hi2.bel); have J2 := JH.out.callB hb2.out; have k6' := (K6.out.callB hb2.out).cell 0; have q7 := (J2.k7.other (by show b6 ≠ b7; have := J2.lt; omega) (.slice aL nL cL) : Blk (w2.setCell ⟨b6, 0, none⟩ (.slice aL nL cL)) b7 _ _); have q8 := ((J2.k8.other (by show b6 ≠ b8; have := J2.lt; omega) (.slice aL nL cL)).other (by show b7 ≠ b8; have := J2.lt; omega) (.int .i64 W) : Blk ((w2.setCell ⟨b6, 0, none⟩ (.slice aL nL cL)).setCell ⟨b7, 0, none⟩ (.int .i64 W)) b8 _ _); have k7' := q7.cell 0; have k8' := q8.cell 0; have k6f : w2.frozen? ⟨b6, 0, none⟩ = false := (K6.out.callB hb2.out).frz 0; have k7f := q7.frz 0; have k8f := q8.frz 0; clear q7 q8; clear hi2 ho2 J2)))
        all_goals
          go_ret
          first
            | (have h0 : ((nf : Int) == 0) = true := by assumption
               have h1 : nf = 0 := by have h2 := eq_of_beq h0; omega
               rw [hv.out, if_pos (And.intro (by first | exact .inl rfl | exact .inl trivial | (right; omega) | (right; simp only [true_and]; omega)) h1)]
               have P := Lib.hid (JH.out.put hb2.out HO2.out W)
               rw [hnL.out] at P
               have lt := JH.out.lt
               exact ⟨rfl, P.out, (((OH.out.callB hb2.out).set_ne (by omega)).set_ne (by omega)).set_ne (by omega)⟩)
            | (rw [hv.out, if_neg (fun h => by
                 have h' : ((nf : Int) == 0) = false := by assumption
                 rw [h.2] at h'
                 simp at h')]
               exact ⟨rfl, JH.out.callB hb2.out, OH.out.callB hb2.out⟩)
            | (rw [hv.out, if_neg (fun h => by
                 rcases h.1 with h0 | h0
                 · cases h0
                 · first | omega | (simp only [true_and] at h0; omega))]
               exact ⟨rfl, JH.out.callB HI1.out.bel, OH.out.callB HI1.out.bel⟩)
      · have e3 : ((nL : Int) == nb) = false := by simp; omega
        go_wp2_with (first
          | (go_at_call 71; (refine (Compare_any _ aL cL L _ a6 c6 b w1 φL φ3 HL.out Z31.out sL hnL (by omega) s3 hnb (by omega) hq).mono ?_; rintro e w' ⟨rfl, rfl⟩))
          | (go_at_call 37; (refine ((fails_any Rx w1 FX1.out _ c x sx hx).mono (fun e w' h => OwnPost.toN (k := nf) hnf.out h)).mono ?_; rintro e w2 ⟨aF, cF, rfl, hi2, ho2⟩; have hb2 := Lib.hid (HI1.out.bel.trans (hi2.bel.mono HI1.out.bel.size)); have HO2 := Lib.hid (HO1.out.callB hi2.bel); have J2 := JH.out.callB hb2.out; have k6' := (K6.out.callB hb2.out).cell 0; have q7 := (J2.k7.other (by show b6 ≠ b7; have := J2.lt; omega) (.slice aL nL cL) : Blk (w2.setCell ⟨b6, 0, none⟩ (.slice aL nL cL)) b7 _ _); have q8 := ((J2.k8.other (by show b6 ≠ b8; have := J2.lt; omega) (.slice aL nL cL)).other (by show b7 ≠ b8; have := J2.lt; omega) (.int .i64 W) : Blk ((w2.setCell ⟨b6, 0, none⟩ (.slice aL nL cL)).setCell ⟨b7, 0, none⟩ (.int .i64 W)) b8 _ _); have k7' := q7.cell 0; have k8' := q8.cell 0; have k6f : w2.frozen? ⟨b6, 0, none⟩ = false := (K6.out.callB hb2.out).frz 0; have k7f := q7.frz 0; have k8f := q8.frz 0; clear q7 q8; clear hi2 ho2 J2)))
        all_goals
          go_ret
          first
            | (have h0 : ((nf : Int) == 0) = true := by assumption
               have h1 : nf = 0 := by have h2 := eq_of_beq h0; omega
               rw [hv.out, if_pos (And.intro (by first | exact .inl rfl | exact .inl trivial | (right; omega) | (right; simp only [true_and]; omega)) h1)]
               have P := Lib.hid (JH.out.put hb2.out HO2.out W)
               rw [hnL.out] at P
               have lt := JH.out.lt
               exact ⟨rfl, P.out, (((OH.out.callB hb2.out).set_ne (by omega)).set_ne (by omega)).set_ne (by omega)⟩)
            | (rw [hv.out, if_neg (fun h => by
                 have h' : ((nf : Int) == 0) = false := by assumption
                 rw [h.2] at h'
                 simp at h')]
               exact ⟨rfl, JH.out.callB hb2.out, OH.out.callB hb2.out⟩)
            | (rw [hv.out, if_neg (fun h => by
                 rcases h.1 with h0 | h0
                 · cases h0
                 · first | omega | (simp only [true_and] at h0; omega))]
               exact ⟨rfl, JH.out.callB HI1.out.bel, OH.out.callB HI1.out.bel⟩)
    · have e3 : (W == lw) = false := by simp [e1]
      go_wp2_with (first
        | (go_at_call 71; (refine (Compare_any _ aL cL L _ a6 c6 b w1 φL φ3 HL.out Z31.out sL hnL (by omega) s3 hnb (by omega) hq).mono ?_; rintro e w' ⟨rfl, rfl⟩))
        | (go_at_call 37; (refine ((fails_any Rx w1 FX1.out _ c x sx hx).mono (fun e w' h => OwnPost.toN (k := nf) hnf.out h)).mono ?_; rintro e w2 ⟨aF, cF, rfl, hi2, ho2⟩; have hb2 := Lib.hid (HI1.out.bel.trans (hi2.bel.mono HI1.out.bel.size)); have HO2 := Lib.hid (HO1.out.callB hi2.bel); have J2 := JH.out.callB hb2.out; have k6' := (K6.out.callB hb2.out).cell 0; have q7 := (J2.k7.other (by show b6 ≠ b7; have := J2.lt; omega) (.slice aL nL cL) : Blk (w2.setCell ⟨b6, 0, none⟩ (.slice aL nL cL)) b7 _ _); have q8 := ((J2.k8.other (by show b6 ≠ b8; have := J2.lt; omega) (.slice aL nL cL)).other (by show b7 ≠ b8; have := J2.lt; omega) (.int .i64 W) : Blk ((w2.setCell ⟨b6, 0, none⟩ (.slice aL nL cL)).setCell ⟨b7, 0, none⟩ (.int .i64 W)) b8 _ _); have k7' := q7.cell 0; have k8' := q8.cell 0; have k6f : w2.frozen? ⟨b6, 0, none⟩ = false := (K6.out.callB hb2.out).frz 0; have k7f := q7.frz 0; have k8f := q8.frz 0; clear q7 q8; clear hi2 ho2 J2)))
      all_goals
        go_ret
        first
          | (have h0 : ((nf : Int) == 0) = true := by assumption
             have h1 : nf = 0 := by have h2 := eq_of_beq h0; omega
             rw [hv.out, if_pos (And.intro (by first | exact .inl rfl | exact .inl trivial | (right; omega) | (right; simp only [true_and]; omega)) h1)]
             have P := Lib.hid (JH.out.put hb2.out HO2.out W)
             rw [hnL.out] at P
             have lt := JH.out.lt
             exact ⟨rfl, P.out, (((OH.out.callB hb2.out).set_ne (by omega)).set_ne (by omega)).set_ne (by omega)⟩)
          | (rw [hv.out, if_neg (fun h => by
               have h' : ((nf : Int) == 0) = false := by assumption
               rw [h.2] at h'
               simp at h')]
             exact ⟨rfl, JH.out.callB hb2.out, OH.out.callB hb2.out⟩)
          | (rw [hv.out, if_neg (fun h => by
               rcases h.1 with h0 | h0
               · cases h0
               · first | omega | (simp only [true_and] at h0; omega))]
             exact ⟨rfl, JH.out.callB HI1.out.bel, OH.out.callB HI1.out.bel⟩)
end Go.Proofs.YtkfmadeeobalaaaDoor

namespace Go.Proofs.YtkfmadeeobalaaaDoor
open Go.RowKit
set_option linter.unusedVariables false
theorem Blk.newAt (w : World) (cs : Array Value) (T : TypeId) {k : Nat} (h : w.heap.size = k) : Blk (w.alloc (.cells cs T)) k cs T := by subst h; exact Blk.new w cs T
/-- φ' is φ, and more from block B on. -/
def SubP (B : Nat) (φ φ' : Phi) : Prop := φ.le φ' ∧ ∀ b, b < B → φ' b = φ b
theorem Inv.sub2 {B : Nat} {w0 w : World} {φ0 φ1 φ2 : Phi} (k : Inv B w0 φ1 φ2 w) (h : SubP B φ0 φ1) : Inv B w0 φ0 φ2 w := ⟨k.bel, k.base, k.fz, h.1.trans k.le, fun b hb => (k.new b hb).trans (h.2 b hb)⟩
def SlBPost (l : List Int) (b : Bool) (φ : Phi) (w : World) (e : Ending) (w' : World) : Prop :=
  ∃ φ' a cap, e = .returned (.tuple #[.slice a l.length cap, .bool b]) ∧ Inv w.heap.size w φ φ' w' ∧ SlV φ' a cap l
set_option maxHeartbeats 1000000 in
theorem least_any
  {φ : Phi} {br : Nat} {fs : List Fld} {es : List Edt} {n m : Nat} {a : Option Addr} {cap : Nat} {ae : Option Addr} {ce : Nat} {ab : Option Addr} {cb : Nat} (R : RulV φ br fs es n m a cap ae ce ab cb)
    (w : World) (hφ : Fz φ w) (a1 : Option Addr) (c1 : Nat) (rec : List Int) (sr : SlV φ a1 c1 rec) (hrl : Hid (rec.length = n)) {l : List Int} {lw : Int} {fo b : Bool} (hq : Hid (leastS fs es n m rec = ((l, lw, fo), b))) :
    Calls Tryd.prog 26 #[.pointer (some ⟨br, 0, none⟩), .slice a1 n c1] w (SlBPost l fo φ w) := by
  have hn12 := R.ok.pos
  have hq' : Hid (foldU (leastV fs es n m rec) (comps fs (List.replicate n true) n 0 (List.replicate n 0)) ([], 0, false) = ((l, lw, fo), b)) := hq
  go_enter Tryd.func26, Tryd.ntmps26
  go_wp2_with fail
  have K2 := Lib.hid (((((Blk.newAt w #[.pointer (some ⟨br, 0, none⟩)] 63 rfl).alloc (.cells #[.slice a1 n c1] 32)).alloc (.cells #[.slice none 0 0] 32)).alloc (.cells #[.int .i64 0] 3)).alloc (.cells #[.bool false] 4))
  have K3 := Lib.hid ((((Blk.newAt (w.alloc (.cells #[.pointer (some ⟨br, 0, none⟩)] 63)) #[.slice a1 n c1] 32 (alloc_size _ _)).alloc (.cells #[.slice none 0 0] 32)).alloc (.cells #[.int .i64 0] 3)).alloc (.cells #[.bool false] 4))
  have K6 := Lib.hid (((Blk.newAt ((w.alloc (.cells #[.pointer (some ⟨br, 0, none⟩)] 63)).alloc (.cells #[.slice a1 n c1] 32)) #[.slice none 0 0] 32 (k := w.heap.size + 1 + 1) (by simp)).alloc (.cells #[.int .i64 0] 3)).alloc (.cells #[.bool false] 4))
  have K7 := Lib.hid ((Blk.newAt (((w.alloc (.cells #[.pointer (some ⟨br, 0, none⟩)] 63)).alloc (.cells #[.slice a1 n c1] 32)).alloc (.cells #[.slice none 0 0] 32)) #[.int .i64 0] 3 (k := w.heap.size + 1 + 1 + 1) (by simp)).alloc (.cells #[.bool false] 4))
  have K8 := Lib.hid (Blk.newAt ((((w.alloc (.cells #[.pointer (some ⟨br, 0, none⟩)] 63)).alloc (.cells #[.slice a1 n c1] 32)).alloc (.cells #[.slice none 0 0] 32)).alloc (.cells #[.int .i64 0] 3)) #[.bool false] 4 (k := w.heap.size + 1 + 1 + 1 + 1) (by simp))
  have HI := Lib.hid ((((((Inv.start hφ).alloc (.cells #[.pointer (some ⟨br, 0, none⟩)] 63)).alloc (.cells #[.slice a1 n c1] 32)).alloc (.cells #[.slice none 0 0] 32)).alloc (.cells #[.int .i64 0] 3)).alloc (.cells #[.bool false] 4))
  have HN := Lib.hid (fun b (h : w.heap.size ≤ b) => hφ.new_none h)
  generalize ((((w.alloc (.cells #[.pointer (some ⟨br, 0, none⟩)] 63)).alloc (.cells #[.slice a1 n c1] 32)).alloc (.cells #[.slice none 0 0] 32)).alloc (.cells #[.int .i64 0] 3)).alloc (.cells #[.bool false] 4) = W at *
  have hWs := Lib.hid K8.out.lt
  generalize hb2 : w.heap.size = b2 at *
  have l3 : b2 + 1 < b2 + 1 + 1 := by omega
  generalize hb3 : b2 + 1 = b3 at *
  generalize hb6 : b3 + 1 = b6 at *
  generalize hb7 : b6 + 1 = b7 at *
  generalize hb8 : b7 + 1 = b8 at *
  have hlt : Hid (b2 < b3 ∧ b3 < b6 ∧ b6 < b7 ∧ b7 < b8) := Lib.hid (by omega)
  replace hb2 := Lib.hid hb2
  clear hb3 hb6 hb7 hb8 l3
  have HL := Lib.hid hq'.out
  refine (all_least R (J := fun g φ2 s w' => LeJ b2 w br (.slice a1 n c1) b2 b3 b6 b7 b8 g φ2 s w' ∧ SubP b2 φ φ2) (V := leastV fs es n m rec) (B := b2) (w0 := w) W ([], 0, false) HI.out.size HI.out.fz ?h0 (fun g φ2 s w h => h.1.h.inv) (fun g φ2 s w k v h => ⟨h.1.row k v, h.2⟩) ?hV hq').mono ?_
  case h0 =>
    intro g φ2 w' hle hi hg hgl hgn
    have lt := hlt.out
    have ws := hWs.out
    have hn : ∀ b, b2 ≤ b → b < W.heap.size → φ2 b = none := fun b h1 h2 => (hi.new b h2).trans (HN.out b h1)
    have hb : ∀ {b cs T}, Blk W b cs T → Blk w' b cs T := fun h => h.callB hi.bel
    exact ⟨⟨HoldS.start ((HI.out.call hi).toSelf) (hb K6.out) hgn (hn b6 (by omega) (by omega)) (by omega) (by omega) hgl, hb K2.out, hb K3.out, hb K7.out, hb K8.out, hn b7 (by omega) (by omega), hn b8 (by omega) ws, by omega⟩, hle, fun b hb => hi.new b (by omega)⟩
  case hV =>
    intro g c φ2 hle x s w' hx hJ hO
    refine (leastC_any (R.mono hle) (sr.mono hle) hrl x s w' hx hJ.1 hO).mono ?_
    rintro e w2 ⟨h1, h2, h3⟩
    exact ⟨h1, ⟨h2, hJ.2⟩, h3⟩
  rintro e w6 ⟨rfl, g, φ2, _, hJ, hle⟩
  obtain ⟨φ3, a6, c6, l6, hi6, s6, k6⟩ := hJ.h.out
  have hI6 := Lib.hid (hi6.sub2 hle)
  have y1 : w6.cell? ⟨b6, 0, none⟩ = some (.slice a6 l.length c6) := k6.cell 0
  have y2 : w6.cell? ⟨b8, 0, none⟩ = some (.bool fo) := hJ.k8.cell 0
  clear hJ k6 hi6 hle l6 hq hq' HL
  go_wp2
  go_quiet (fail)
  go_wp2
  go_ret2
  exact ⟨φ3, a6, c6, rfl, by rw [hb2.out]; exact hI6.out.drewN _, s6⟩
end Go.Proofs.YtkfmadeeobalaaaDoor

namespace Go.Proofs.YtkfmadeeobalaaaDoor
open Go.RowKit
set_option linter.unusedVariables false
/-- The fault of a plan and a record. -/
noncomputable def withF (fs : List Fld) (es : List Edt) (rec : List Int) : Int := if planF fs es ≠ 0 then planF fs es else recF fs.length rec
def WithB (fs : List Fld) (es : List Edt) (rec : List Int) (F : Int) (φ : Phi) (w : World) (e : Ending) (w' : World) : Prop :=
  ∃ φ' p, e = .returned (.tuple #[p, .int .i64 F]) ∧ Inv w.heap.size w φ φ' w' ∧ (F = 0 → ∃ br a cap ae ce ab cb, p = .pointer (some ⟨br, 0, none⟩) ∧ RulV φ' br fs es fs.length es.length a cap ae ce ab cb)
theorem recF_len {n : Nat} {rec : List Int} (h : recF n rec = 0) : rec.length = n := by
  unfold recF at h
  split at h
  · cases h
  · next h1 => omega
theorem withF_zero {fs : List Fld} {es : List Edt} {rec : List Int} (h : withF fs es rec = 0) : planF fs es = 0 ∧ rec.length = fs.length := by
  unfold withF at h
  split at h
  · next h1 => exact absurd h h1
  · next h1 => exact ⟨by simpa using h1, recF_len h⟩
def PassPost (b : Bool) (F : Int) (w : World) (e : Ending) (w' : World) : Prop := e = .returned (.tuple #[.bool b, .int .i64 F]) ∧ Below w.heap.size w w'
def passR (fs : List Fld) (es : List Edt) (rec : List Int) (F : Int) : Bool := if F = 0 then passB fs es rec fs.length es.length else false
def SlFPost (l : List Int) (F : Int) (φ : Phi) (w : World) (e : Ending) (w' : World) : Prop :=
  ∃ φ' a cap, e = .returned (.tuple #[.slice a l.length cap, .int .i64 F]) ∧ Inv w.heap.size w φ φ' w' ∧ SlV φ' a cap l
def leastR (fs : List Fld) (es : List Edt) (rec : List Int) (F : Int) : List Int × Int :=
  if F = 0 then (if (leastS fs es fs.length es.length rec).1.2.2 = true then ((leastS fs es fs.length es.length rec).1.1, 0) else ([], 9)) else ([], F)
def SlBFPost (l : List Int) (b : Bool) (F : Int) (φ : Phi) (w : World) (e : Ending) (w' : World) : Prop :=
  ∃ φ' a cap, e = .returned (.tuple #[.slice a l.length cap, .bool b, .int .i64 F]) ∧ Inv w.heap.size w φ φ' w' ∧ SlV φ' a cap l
def firstF (fs : List Fld) (rec free : List Int) (F : Int) : Int := if F = 0 then freeF fs.length free else F
def firstR (fs : List Fld) (es : List Edt) (rec free : List Int) (F : Int) : List Int × Bool := if F = 0 then firstS fs es fs.length es.length rec free else ([], false)
end Go.Proofs.YtkfmadeeobalaaaDoor
