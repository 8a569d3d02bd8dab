/- The walk of first. Conditions: none beyond what the claim form gives. -/
import Derived.Test.YtambgcijceecpaaDoorEB
namespace Go.Proofs.YtambgcijceecpaaDoor
open Go.RowKit
set_option linter.unusedVariables false

theorem alloc_size (w : World) (o : Obj) : (w.alloc o).heap.size = w.heap.size + 1 := by simp
theorem Inv.cat {B : Nat} {w0 w w' : World} {φ0 φ1 φ2 : Phi} (h : Inv B w0 φ0 φ1 w) (k : Inv B w0 φ1 φ2 w') : Inv B w0 φ0 φ2 w' := ⟨k.bel, k.base, k.fz, h.le.trans k.le, fun b hb => (k.new b hb).trans (h.new b hb)⟩
theorem slBo : SliceTy Tryd.prog 71 4 (.bool false) (Rep.size Bool) 1 := ⟨Tryd.underlying71, by kernel_rfl, rfl, by decide, by decide⟩
theorem Own.boolsD {B : Nat} {φ : Phi} {w : World} {E : TypeId} {a : Option Addr} {cap : Nat} {xs : List Bool} (h : Own B φ w E a cap xs) {k n : Nat} (hn : Hid (xs.length = n)) (hk : k < n) :
    ∃ g, a = some ⟨g, 0, none⟩ ∧ g < w.heap.size ∧ ∀ k, k < n → w.cell? ⟨g, k, none⟩ = some (.bool (xs.getD k false)) ∧ w.frozen? ⟨g, k, none⟩ = false ∧
      ∀ y w0 φ0, Inv B w0 φ0 φ w → Own B φ (w.setCell ⟨g, k, none⟩ (.bool y)) E a cap (xs.set k y) ∧ Inv B w0 φ0 φ (w.setCell ⟨g, k, none⟩ (.bool y)) := by
  obtain ⟨g, rfl, _, hg, _, hf, hc⟩ := h.elem (k := k) (by rw [hn.out]; exact hk)
  refine ⟨g, rfl, hg, fun k hk => ?_⟩
  have hk' : k < xs.length := by rw [hn.out]; exact hk
  obtain ⟨cs, hcs, hj⟩ := hc k hk'
  have hcs' : cs = [.bool xs[k]] := hcs
  subst hcs'
  have h0 := hj 0 (by simp)
  simp [Rep.size] at h0
  refine ⟨by rw [h0, getD_elem0 _ _ _ hk'], hf k, fun y w0 φ0 hi => ?_⟩
  have := h.setCell hi hk' (y := y) (j := 0) (u := .bool y) hj rfl (by simp) rfl
  simpa [Rep.size] using this
theorem frB_nil (n : Nat) : frB n [] = List.replicate n false := by
  unfold frB
  apply List.ext_getElem
  · simp
  · intro i h1 h2; simp
theorem frB_step {n k : Nat} {free : List Int} {j : Nat} (hk : k < free.length) (hj : free.getD k 0 = (j : Int)) (hjn : j < n) : (frB n (free.take k)).set j true = frB n (free.take (k + 1)) := by
  rw [getD_elem0 _ _ _ hk] at hj
  rw [take_snoc free k hk, hj]
  apply List.ext_getElem
  · rw [List.length_set, frB_len, frB_len]
  · intro i h1 h2
    rw [List.getElem_set]
    unfold frB
    by_cases e : j = i
    · subst e; simp
    · rw [if_neg e]
      simp
      intro h
      omega
def OwnPostN (n : Nat) (xs : List Int) (φ : Phi) (w : World) (e : Ending) (w' : World) : Prop :=
  ∃ a cap, e = .returned (.slice a n cap) ∧ Inv w.heap.size w φ φ w' ∧ Own w.heap.size φ w' 3 a cap xs
theorem Clone_n {w : World} {ac : Option Addr} {cc nc : Nat} {cs : List Int} {φ : Phi} (hφ : Fz φ w) (sc : SlV φ ac cc cs) (hnc : Hid (cs.length = nc)) (hmc : nc ≤ 1000000) :
    Calls Tryd.prog 69 #[.slice ac nc cc] w (OwnPostN nc cs φ w) := by
  have := Clone_any hφ sc hnc hmc
  unfold OwnPost at this
  rw [hnc.out] at this
  exact this
def FirstPost (q : List Int × Bool) (φ : Phi) (w : World) (e : Ending) (w' : World) : Prop :=
  ∃ φ' a cap, e = .returned (.tuple #[.slice a q.1.length cap, .bool q.2]) ∧ Inv w.heap.size w φ φ' w' ∧ SlV φ' a cap q.1
set_option maxRecDepth 100000 in
set_option maxHeartbeats 2000000 in
theorem first_any
  {φ : Phi} {br : Nat} {fs : List Fld} {es : List Edt} {n m : Nat} {a : Option Addr} {cap : Nat} {ae : Option Addr} {ce : Nat} {ab : Option Addr} {cb : Nat} (R : RulV φ br fs es n m a cap ae ce ab cb)
    (w : World) (hφ : Fz φ w) (a1 : Option Addr) (c1 : Nat) (rec : List Int) (sr : SlV φ a1 c1 rec) (hrl : Hid (rec.length = n)) (nf : Nat) (a2 : Option Addr) (c2 : Nat) (free : List Int) (sf : SlV φ a2 c2 free) (hfl : Hid (free.length = nf)) (hmf : nf ≤ 9223372036854775807) (hfr : Hid (∀ k ∈ free, 0 ≤ k ∧ k < n)) {q : List Int × Bool} (hq : Hid (firstS fs es n m rec free = q)) :
    Calls Tryd.prog 37 #[.pointer (some ⟨br, 0, none⟩), .slice a1 n c1, .slice a2 nf c2] w (FirstPost q φ w) := by
  have hn12 := R.ok.pos
  obtain ⟨ql, qb⟩ := q
  have hK1 : Hid (Blk (w.alloc (.cells #[.pointer (some ⟨br, 0, none⟩)] 54)) w.heap.size #[.pointer (some ⟨br, 0, none⟩)] 54) := Lib.hid (Blk.new w _ _)
  have hI1 : Hid (Inv w.heap.size w φ φ (w.alloc (.cells #[.pointer (some ⟨br, 0, none⟩)] 54))) := Lib.hid ((Inv.start hφ).alloc _)
  go_enter Tryd.func37, Tryd.ntmps37
  go_wp2_with (at_make; refine wpList_mkn (α := Bool) rfl _ _ 71 rfl slBo hI1.out _ _ n false (fun _ => rfl) rfl rfl rfl (by omega) ?_; intro w1 hi1 hown1 hg1)
  have HI := Lib.hid hi1
  have HO := Lib.hid hown1
  have HK := Lib.hid ((hg1.block w.heap.size hK1.out.lt (by simp)).trans hK1.out)
  clear hi1 hown1 hg1 hK1 hI1
  rw [← frB_nil, alloc_size] at HO
  generalize hb1 : w.heap.size = b1 at *
  replace hb1 := Lib.hid hb1
  have HS : Hid (Inv b1 w φ φ w1 ∧ Own b1 φ w1 4 (some ⟨b1 + 1, 0, none⟩) n (frB n (free.take 0)) ∧ Blk w1 b1 #[.pointer (some ⟨br, 0, none⟩)] 54) := Lib.hid ⟨HI.out, by rw [List.take_zero]; exact HO.out, HK.out⟩
  clear HI HO HK
  go_loopw [18] (fun i wr => ∃ k : Nat, k ≤ nf ∧ i = .int .i64 k ∧ Hid (Inv b1 w φ φ wr ∧ Own b1 φ wr 4 (some ⟨b1 + 1, 0, none⟩) n (frB n (free.take k)) ∧ Blk wr b1 #[.pointer (some ⟨br, 0, none⟩)] 54)) (fun i _ => nf - (intOf i).toNat)
  case atStart => exact ⟨0, Nat.zero_le _, rfl, HS⟩
  case round =>
    clear HS
    obtain ⟨k, hk, rfl, hS⟩ := hrel
    by_cases hlt : k < nf
    · obtain ⟨b2, o2, rfl, f2⟩ := sf.intsD hfl hlt
      have d2 := (f2 k hlt wr hS.out.1.fz).2
      have hx := hfr.out (free.getD k 0) (by rw [getD_elem0 _ _ _ (by rw [hfl.out]; exact hlt)]; exact List.getElem_mem _)
      have HST := Lib.hid (fun (j : Nat) (h : free.getD k 0 = (j : Int)) (h2 : j < n) => frB_step (n := n) (by rw [hfl.out]; exact hlt) h h2)
      clear f2
      generalize free.getD k 0 = x at *
      obtain ⟨j, rfl⟩ : ∃ j : Nat, x = j := ⟨x.toNat, by omega⟩
      have hj : j < n := by omega
      have H2 := Lib.hid (HST.out j rfl hj)
      clear HST hx
      obtain ⟨g, hg, hgl, fO⟩ := hS.out.2.1.boolsD (Lib.hid (frB_len n _)) hj
      cases hg
      obtain ⟨d3, d4, hst⟩ := fO j hj
      have HST := Lib.hid (hst true w φ hS.out.1)
      have hne : b1 + 1 ≠ b1 := by omega
      have HNE := Lib.hid hne
      clear fO hst hne
      go_wp2
      go_roundw
      case rel => exact ⟨k + 1, by omega, by go_num, Lib.hid ⟨HST.out.2, by rw [← H2.out]; exact HST.out.1, hS.out.2.2.other HNE.out _⟩⟩
      case measure => simp [intOf]; omega
    · obtain rfl : k = nf := by omega
      have hS3 := Lib.hid hS.out.1
      have hO3 := Lib.hid hS.out.2.1
      have hK3 := Lib.hid hS.out.2.2
      rw [← hfl.out, List.take_length] at hO3
      obtain ⟨φ2, l2, hi2, s2, f2⟩ := hO3.out.release hS3.out
      have L2 := Lib.hid l2
      have I2 := Lib.hid (hi2.alloc (.cells #[.slice none 0 0] 26))
      have S2 := Lib.hid s2
      have hlo := hi2.size
      have hb2 : φ2 wr.heap.size = none := hi2.fz.new_none (Nat.le_refl _)
      have HB2 := Lib.hid hb2
      have K1 := Lib.hid (hK3.out.alloc (.cells #[.slice none 0 0] 26))
      have K2 := Lib.hid (Blk.new wr #[.slice none 0 0] 26)
      have hbb : b1 < wr.heap.size := hK3.out.lt
      have R2 := R.mono L2.out
      have sr2 := sr.mono L2.out
      clear l2 hi2 s2 f2 hb2 hS3 hO3 hK3 hS
      go_wp2
      have c3 : (wr.alloc (.cells #[.slice none 0 0] 26)).cell? ⟨b1, 0, none⟩ = some (.pointer (some ⟨br, 0, none⟩)) := K1.out.cell 0
      generalize hwy : wr.alloc (.cells #[.slice none 0 0] 26) = wy at *
      replace hwy := Lib.hid hwy
      generalize wr.heap.size = b2 at *
      have hsz : b2 < wy.heap.size := K2.out.lt
      have HG := Lib.hid (fun (g : Nat) (hg : wy.heap.size ≤ g) => I2.out.fz.new_none hg)
      go_region_with (first
        | (go_at_call 69; refine (Clone_n (cs := rec) (φ := φ2) (by first | exact I2.out.fz | exact I2.out.drew.fz | exact I2.out.drew.drew.fz) sr2 hrl (by omega)).mono ?_; rintro e w5 ⟨a5, c5, rfl, hi5, ho5⟩; have hbel' : Below wy.heap.size wy w5 := (by first | exact hi5.bel | exact ((Below.refl _ _).drew).trans hi5.bel | exact ((Below.refl _ _).drew.drew).trans hi5.bel); have c5' : w5.cell? ⟨b1, 0, none⟩ = some (.pointer (some ⟨br, 0, none⟩)) := (K1.out.callB hbel').cell 0)
        | (go_at_call 68; go_loud (
           have hbel := hbel'
           obtain ⟨g5, rfl, hgb, hgl, hgn, _⟩ := ho5.elem (k := 0) (by rw [hrl.out]; omega)
           have hgb2 : wy.heap.size ≤ g5 := hgb
           refine (each_first (R2) (σ := List Int) (J := FiJ b1 w φ2 br g5 b1 b2) (V := firstV fs es n m) (p1 := b1) (p2 := b2) S2.out (Lib.hid (frB_len n free)) (fun s w h => h.h.inv) (fun s w k v h => h.row k v) (fun x s w hx hJ hO => firstC_any R2 x s w hx hJ hO) n 0 rfl (Nat.zero_le _) 0 rfl rec [] w5 hrl ⟨HoldS.start ((I2.out.callB hbel).toSelf) (K2.out.callB hbel) (HG.out g5 hgb2) HB2.out (Nat.le_of_lt hbb) (by omega) hgl, K1.out.callB hbel, hbb⟩ (ho5.base I2.out.size) hq).mono ?_
           rintro e w6 ⟨x6, rfl, hx6, hJ6, hO6, _⟩
           obtain ⟨φ3, a6, c6, l6, hi6, s6, k6⟩ := hJ6.h.out
           have c7 : w6.cell? ⟨b2, 0, none⟩ = some (.slice a6 ql.length c6) := k6.cell 0)))
      all_goals
        clear hgn hJ6 hO6 hi5 ho5 c5'
        go_wp2
        go_ret2
        exact ⟨φ3, a6, c6, rfl, by rw [hb1.out]; exact I2.out.cat hi6, s6⟩
end Go.Proofs.YtambgcijceecpaaDoor
