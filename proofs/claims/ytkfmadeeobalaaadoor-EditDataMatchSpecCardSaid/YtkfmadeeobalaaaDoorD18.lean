/- The walk of the law EditDataMatchSpec. Conditions: the library's tables of blanks and of powers of ten read as they were laid. -/
import Derived.Test.YtkfmadeeobalaaaDoorD17
import Derived.Test.YtkfmadeeobalaaaDoorPl
namespace Go.Proofs.YtkfmadeeobalaaaDoor
open Go.RowKit
set_option linter.unusedVariables false
/-- The record of changed data is the record. -/
theorem back_eq {fs : List Fld} {l : List Giv} {rec : List Int} {n : Nat} (hn : fs.length = n) (hf : ∀ i, i < n → fldBad fs i = 0) (hd : dataF l = 0) (hr : rec.length = n) : recO fs (chgK fs rec (recO fs l n) l n) n = rec := by
  apply ext_getD0 0 (by rw [recO_len, hr])
  intro j hj
  rw [recO_len] at hj
  rw [recO_at fs _ hj, (chgK_ok (rec := rec) (names_inj hn hf) (data_uniq hd) (fun j hj => recO_at fs l hj) n (Nat.le_refl _)).2 j hj, if_pos hj]
theorem mem_chg {fs : List Fld} {rec old : List Int} {l : List Giv} : ∀ {k : Nat} {x : Giv}, x ∈ chgK fs rec old l k → x ∈ l ∨ ∃ i, i < k ∧ ∃ c, x = newG (fs.getD i fld0).1 c
  | 0, x, h => .inl h
  | k + 1, x, h => by
    have hrec : x ∈ chgK fs rec old l k → x ∈ l ∨ ∃ i, i < k + 1 ∧ ∃ c, x = newG (fs.getD i fld0).1 c := fun h => by
      rcases mem_chg h with q | ⟨i, hi, c, q⟩
      · exact .inl q
      · exact .inr ⟨i, by omega, c, q⟩
    have h' : x ∈ chgS fs rec old (chgK fs rec old l k) k := h
    unfold chgS at h'
    split at h'
    · exact hrec h'
    · split at h'
      · exact hrec (List.mem_of_mem_eraseIdx h')
      · split at h'
        · rcases List.mem_or_eq_of_mem_set h' with q | q
          · exact hrec q
          · exact .inr ⟨k, by omega, _, q⟩
        · rcases List.mem_append.1 h' with q | q
          · exact hrec q
          · exact .inr ⟨k, by omega, _, List.mem_singleton.1 q⟩
set_option maxRecDepth 100000 in
set_option maxHeartbeats 4000000 in
theorem data_core
  (n : Nat) (a : Option Addr) (cap : Nat) (fs : List Fld) (m : Nat) (ae : Option Addr) (ce : Nat) (es : List Edt) (w : World) (φ : Phi) (hφ : Fz φ w) (ht : TabP φ) (hpw : PowP φ) (s : SlV φ a cap fs) (hn : Hid (fs.length = n)) (hm : n ≤ 9223372036854775807) (hg : Hid (∀ x ∈ fs, FldG x)) (se : SlV φ ae ce es) (hne : Hid (es.length = m)) (hme : m ≤ 9223372036854775807) (hge : Hid (∀ x ∈ es, EdtG x))
      (nd : Nat) (ad : Option Addr) (cd : Nat) (l : List Giv) (sl : SlV φ ad cd l) (hl : Hid (l.length = nd)) (hgl : Hid (∀ x ∈ l, x.1.1.size ≤ reachBytes))
      (nr : Nat) (a2 : Option Addr) (c2 : Nat) (rec : List Int) (sr : SlV φ a2 c2 rec) (hrl : Hid (rec.length = nr)) (hmr : nr ≤ 9223372036854775807)
    :
    Calls Tryd.prog 4 #[.agg #[.slice a n cap, .slice ae m ce], .slice ad nd cd, .slice a2 nr c2] w fun e w' => e = .returned (.bool true) ∧ Below w.heap.size w w' := by
  obtain ⟨F, hF⟩ : ∃ F, Hid (recdF fs es l = F) := ⟨_, Lib.hid rfl⟩
  obtain ⟨old, hold⟩ : ∃ o, Hid (recdR fs l F = o) := ⟨_, Lib.hid rfl⟩
  obtain ⟨G, hG⟩ : ∃ G, Hid (chgF fs es l rec = G) := ⟨_, Lib.hid rfl⟩
  obtain ⟨out, hout⟩ : ∃ o, Hid (chgR fs l rec G = o) := ⟨_, Lib.hid rfl⟩
  obtain ⟨φ1, le1, i1, k1⟩ := (Inv.start hφ).frz (.cells #[.slice a n cap, .slice ae m ce] 25)
  have H0 := Lib.hid i1
  have LE1 := Lib.hid le1
  have HBX := Lib.hid (fun (φ' : Phi) (h : φ1.le φ') (w' : World) (hf : Fz φ' w') => (hf.blk (h _ _ k1)))
  have hFF : (F != F) = false := by simp
  have hGG : (G != G) = false := by simp
  replace ht := Lib.hid ht
  replace hpw := Lib.hid hpw
  have p0 : (w.alloc (.cells #[.slice a n cap, .slice ae m ce] 25)).cell? ⟨w.heap.size, 0, none⟩ = some (.slice a n cap) := box_at 0
  have p1 : (w.alloc (.cells #[.slice a n cap, .slice ae m ce] 25)).cell? ⟨w.heap.size, 1, none⟩ = some (.slice ae m ce) := box_at 1
  have C0 := Lib.hid (Record_any n a cap fs m ae ce es (w.alloc (.cells #[.slice a n cap, .slice ae m ce] 25)) φ1 i1.fz (ht.out.mono le1) (hpw.out.mono le1) (s.mono le1) hn hm hg (se.mono le1) hne hme hge nd ad cd l (sl.mono le1) hl hgl hF hold)
  clear i1 le1 k1
  go_enter Tryd.func4, Tryd.ntmps4
  go_wp2_with fail
  clear p0 p1
  generalize hbp : w.heap.size = bp at *
  replace hbp := Lib.hid hbp
  refine C0.out.mono ?_
  rintro e w1 ⟨φ2, a4, c4, rfl, hi1, s4⟩
  have H1 := Lib.hid (H0.out.call hi1)
  have L12 := Lib.hid hi1.le
  have L02 := Lib.hid (LE1.out.trans hi1.le)
  have S4 := Lib.hid s4
  clear hi1 s4 H0 C0
  obtain ⟨no, hno⟩ : ∃ k, Hid (old.length = k) := ⟨_, Lib.hid rfl⟩
  rw [hno.out]
  have p0 : w1.cell? ⟨bp, 0, none⟩ = some (.slice a n cap) := (HBX.out _ L12.out w1 H1.out.fz).cell 0
  have p1 : w1.cell? ⟨bp, 1, none⟩ = some (.slice ae m ce) := (HBX.out _ L12.out w1 H1.out.fz).cell 1
  go_wp2_with fail
  clear p0 p1
  refine (RRecord_any n a cap fs m ae ce es w1 φ2 H1.out.fz (ht.out.mono L02.out) (hpw.out.mono L02.out) (s.mono L02.out) hn hm hg (se.mono L02.out) hne hme hge nd ad cd l (sl.mono L02.out) hl hgl hF hold).mono ?_
  rintro e w2 ⟨φ3, a5, c5, rfl, hi2, s5⟩
  have H2 := Lib.hid (H1.out.call hi2)
  have L13 := Lib.hid (L12.out.trans hi2.le)
  have L03 := Lib.hid (L02.out.trans hi2.le)
  have S43 := Lib.hid (S4.out.mono hi2.le)
  have S5 := Lib.hid s5
  have hol := s5.len
  rw [hno.out] at hol ⊢
  clear hi2 s5 H1 S4
  go_wp2_with fail
  refine (Equal_t no a4 c4 old a5 c5 w2 φ3 φ3 H2.out.fz H2.out.fz S43.out hno hol S5.out).mono ?_
  rintro e w3 ⟨rfl, hb3⟩
  have H3 := Lib.hid (H2.out.callB hb3)
  clear hb3 H2 S43 S5 hFF
  have p0 : w3.cell? ⟨bp, 0, none⟩ = some (.slice a n cap) := (HBX.out _ L13.out w3 H3.out.fz).cell 0
  have p1 : w3.cell? ⟨bp, 1, none⟩ = some (.slice ae m ce) := (HBX.out _ L13.out w3 H3.out.fz).cell 1
  go_wp2_with fail
  clear p0 p1
  refine (Changed_any n a cap fs m ae ce es w3 φ3 H3.out.fz (ht.out.mono L03.out) (hpw.out.mono L03.out) (s.mono L03.out) hn hm hg (se.mono L03.out) hne hme hge nd ad cd l (sl.mono L03.out) hl hgl nr a2 c2 rec (sr.mono L03.out) hrl hmr hG hout).mono ?_
  rintro e w4 ⟨φ4, a6, c6, rfl, hi4, s6⟩
  have H4 := Lib.hid (H3.out.call hi4)
  have L14 := Lib.hid (L13.out.trans hi4.le)
  have L04 := Lib.hid (L03.out.trans hi4.le)
  have S6 := Lib.hid s6
  clear hi4 s6 H3
  obtain ⟨nx, hnx⟩ : ∃ k, Hid (out.length = k) := ⟨_, Lib.hid rfl⟩
  rw [hnx.out]
  have p0 : w4.cell? ⟨bp, 0, none⟩ = some (.slice a n cap) := (HBX.out _ L14.out w4 H4.out.fz).cell 0
  have p1 : w4.cell? ⟨bp, 1, none⟩ = some (.slice ae m ce) := (HBX.out _ L14.out w4 H4.out.fz).cell 1
  go_wp2_with fail
  clear p0 p1
  refine (RChanged_any n a cap fs m ae ce es w4 φ4 H4.out.fz (ht.out.mono L04.out) (hpw.out.mono L04.out) (s.mono L04.out) hn hm hg (se.mono L04.out) hne hme hge nd ad cd l (sl.mono L04.out) hl hgl nr a2 c2 rec (sr.mono L04.out) hrl hmr hG hout).mono ?_
  rintro e w5 ⟨φ5, a7, c7, rfl, hi5, s7⟩
  have H5 := Lib.hid (H4.out.call hi5)
  have L15 := Lib.hid (L14.out.trans hi5.le)
  have L05 := Lib.hid (L04.out.trans hi5.le)
  have S65 := Lib.hid (S6.out.mono hi5.le)
  have S7 := Lib.hid s7
  have hxl := s7.len
  rw [hnx.out] at hxl ⊢
  clear hi5 s7 H4 S6
  go_wp2_with fail
  refine (EqualGiv_t nx a6 c6 out a7 c7 w5 φ5 H5.out.fz S65.out hnx hxl S7.out).mono ?_
  rintro e w6 ⟨rfl, hb6⟩
  have H6 := Lib.hid (H5.out.callB hb6)
  clear hb6 H5 S7 hGG
  by_cases hz : G = 0
  case neg =>
    have hzz : (G != 0) = true := by simp [hz]
    clear hz
    go_wp2
    go_ret
    exact ⟨rfl, by rw [hbp.out]; exact H6.out.bel⟩
  subst hz
  obtain ⟨K, hK⟩ : ∃ K, Hid (recdF fs es out = K) := ⟨_, Lib.hid rfl⟩
  obtain ⟨bk, hbk⟩ : ∃ o, Hid (recdR fs out K = o) := ⟨_, Lib.hid rfl⟩
  have hg0 := hG.out
  unfold chgF at hg0
  have hP : planF fs es = 0 ∧ dataF l = 0 ∧ recF fs.length rec = 0 := by
    split at hg0
    · next q => exact absurd hg0 q
    · next q =>
      split at hg0
      · next q2 => exact absurd hg0 q2
      · next q2 => exact ⟨by simpa using q, by simpa using q2, hg0⟩
  have OK := planF_zero hP.1
  have hrn := recF_len hP.2.2
  have hO := hout.out
  rw [chgR, if_pos rfl] at hO
  have HBK : Hid (K = 0 → bk = rec) := Lib.hid (fun h => by
    rw [← hbk.out, recdR, if_pos h, ← hO]
    exact back_eq rfl OK.fld hP.2.1 hrn)
  have HGO : Hid (∀ x ∈ out, x.1.1.size ≤ reachBytes) := Lib.hid (fun x hx => by
    rw [← hO] at hx
    rcases mem_chg hx with q | ⟨i, hi, c, rfl⟩
    · exact hgl.out x q
    · have := hg.out (fs.getD i fld0) (by rw [getD_elem0 _ _ _ hi]; exact List.getElem_mem _)
      exact this)
  clear hg0 hP OK hrn hO
  have p0 : w6.cell? ⟨bp, 0, none⟩ = some (.slice a n cap) := (HBX.out _ L15.out w6 H6.out.fz).cell 0
  have p1 : w6.cell? ⟨bp, 1, none⟩ = some (.slice ae m ce) := (HBX.out _ L15.out w6 H6.out.fz).cell 1
  go_wp2_with fail
  clear p0 p1
  refine (Record_any n a cap fs m ae ce es w6 φ5 H6.out.fz (ht.out.mono L05.out) (hpw.out.mono L05.out) (s.mono L05.out) hn hm hg (se.mono L05.out) hne hme hge nx a6 c6 out S65.out hnx HGO hK hbk).mono ?_
  rintro e w7 ⟨φ7, a8, c8, rfl, hi7, s8⟩
  have H7 := Lib.hid (H6.out.call hi7)
  have L07 := Lib.hid (L05.out.trans hi7.le)
  have S8 := Lib.hid s8
  clear hi7 s8 H6
  by_cases hz : K = 0
  case neg =>
    have hzz : (K != 0) = true := by simp [hz]
    clear hz
    go_wp2
    go_ret
    exact ⟨rfl, by rw [hbp.out]; exact H7.out.bel⟩
  obtain rfl := HBK.out hz
  subst hz
  rw [hrl.out]
  go_wp2_with fail
  refine (Equal_t nr a8 c8 bk a2 c2 w7 φ7 φ7 H7.out.fz H7.out.fz S8.out hrl hmr (sr.mono L07.out)).mono ?_
  rintro e w8 ⟨rfl, hb8⟩
  have H8 := Lib.hid (H7.out.callB hb8)
  go_wp2
  go_ret
  exact ⟨rfl, by rw [hbp.out]; exact H8.out.bel⟩
def GivG (x : Giv) : Prop := (StrG x.1.1 ∧ (x.1.2.length * 8 ≤ reachBytes ∧ ∀ z ∈ x.1.2, IsI64 z)) ∧ (IsI64 x.2.1 ∧ IsI64 x.2.2.1 ∧ StrG x.2.2.2.1 ∧ (x.2.2.2.2.length * 8 ≤ reachBytes ∧ ∀ z ∈ x.2.2.2.2, IsI64 z))
def GivLG (xs : List Giv) : Prop := xs.length * Tryd.prog.bytesOf 54 ≤ reachBytes ∧ ∀ x ∈ xs, GivG x
theorem rGiv (H : Type) (enc : TypeId × Value → H) (W : World) : Reads enc Tryd.prog W 43 (List Giv) GivLG :=
  Reads.slice Tryd.underlying43 (by kernel_rfl) (by decide)
    (Reads.struct2 (s1 := 2) (s2 := 4) Tryd.underlying54 (by kernel_rfl) (by kernel_rfl) (by kernel_rfl) (by kernel_rfl) (by kernel_rfl)
      (Reads.struct2 (s1 := 1) (s2 := 1) Tryd.underlying50 (by kernel_rfl) (by kernel_rfl) (by kernel_rfl) (by kernel_rfl) (by kernel_rfl) (rStr H enc W) (rInts H enc W))
      (Reads.struct4 (s1 := 1) (s2 := 1) (s3 := 1) (s4 := 1) Tryd.underlying52 (by kernel_rfl) (by kernel_rfl) (by kernel_rfl) (by kernel_rfl) (by kernel_rfl) (by kernel_rfl) (by kernel_rfl) (by kernel_rfl) (by kernel_rfl) (rInt H enc W) (rInt H enc W) (rStr H enc W) (rInts H enc W)))
theorem editDataMatchSpec_walk (w : World) (φ : Phi) (hφ : Fz φ w) (hp : PowP φ) (ht : TabP φ) (cs : Array Value) (x : Plan) (hx : Rep.rep φ x cs.toList) (g : PlanG x)
    (a4 : Option Addr) (c4 : Nat) (d : List Giv) (sd : SlV φ a4 c4 d) (gd : GivLG d) (a3 : Option Addr) (c3 : Nat) (r : List Int) (sr : SlV φ a3 c3 r) (gr : r.length * 8 ≤ reachBytes ∧ ∀ x ∈ r, IsI64 x) :
    Calls Tryd.prog 4 #[.agg cs, .slice a4 d.length c4, .slice a3 r.length c3] w fun e w' => e = .returned (.bool true) ∧ Below w.heap.size w w' := by
  obtain ⟨a, cap, ae, ce, A⟩ := plan_open hx g
  rw [A.e]
  have h1 := ints_len gr.1
  exact data_core _ a cap x.1 _ ae ce x.2 w φ hφ ht hp A.s (Lib.hid rfl) A.hm (Lib.hid A.hg) A.se (Lib.hid rfl) A.hme (Lib.hid A.hge) _ a4 c4 d sd (Lib.hid rfl) (Lib.hid (fun y hy => (gd.2 y hy).1.1)) _ a3 c3 r sr (Lib.hid rfl) (by omega)
end Go.Proofs.YtkfmadeeobalaaaDoor
