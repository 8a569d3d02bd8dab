/- The walk of CheckPlan, on the program's side. Conditions: none beyond what the claim form gives. -/
import Derived.Test.YtambgcijceecpaaDoorE3
import Derived.Test.YtambgcijceecpaaDoorLit
namespace Go.Proofs.YtambgcijceecpaaDoor
open Go.RowKit
set_option linter.unusedVariables false

abbrev Edt := ByteArray × List (List Int)
abbrev edt0 : Edt := (ByteArray.empty, [])
theorem SlV.lists {α : Type} [Rep α] {φ : Phi} {a : Option Addr} {cap : Nat} {gs : List (List α)} (h : SlV φ a cap gs) {k n : Nat} (hn : Hid (gs.length = n)) (hk : k < n) :
    ∃ b off, a = some ⟨b, off, none⟩ ∧ ∀ k, k < n → ∃ ag cg, SlV φ ag cg (gs.getD k []) ∧ ∀ w, Fz φ w → b < w.heap.size ∧ w.cell? ⟨b, off + k, none⟩ = some (.slice ag (gs.getD k []).length cg) := by
  obtain ⟨b, off, ha, hc⟩ := h.cellsD [] hn hk
  refine ⟨b, off, ha, fun k hk => ?_⟩
  obtain ⟨cs, ⟨ag, cg, rfl, hs⟩, hj⟩ := hc k hk
  refine ⟨ag, cg, hs, fun w hw => ?_⟩
  have j0 := hj 0 (by simp)
  simp [Rep.size] at j0
  exact ⟨hw.lt j0, hw.cell j0⟩
theorem SlV.edtD {φ : Phi} {a : Option Addr} {cap : Nat} {xs : List Edt} (h : SlV φ a cap xs) {k n : Nat} (hn : Hid (xs.length = n)) (hk : k < n) :
    ∃ b off, a = some ⟨b, off, none⟩ ∧ ∀ k, k < n → ∃ ac cc, SlV φ ac cc (xs.getD k edt0).2 ∧ ∀ w, Fz φ w → b < w.heap.size ∧ w.cell? ⟨b, off + k * 2, none⟩ = some (.string (xs.getD k edt0).1) ∧ w.cell? ⟨b, off + k * 2 + 1, none⟩ = some (.slice ac (xs.getD k edt0).2.length cc) := by
  obtain ⟨b, off, ha, hc⟩ := h.cellsD edt0 hn hk
  refine ⟨b, off, ha, fun k hk => ?_⟩
  obtain ⟨cs, ⟨c, d, rfl, h1, ⟨ac, cc, rfl, hs⟩⟩, hj⟩ := hc k hk
  cases h1
  refine ⟨ac, cc, hs, fun w hw => ?_⟩
  have j0 := hj 0 (by simp)
  have j1 := hj 1 (by simp)
  simp [Rep.size] at j0 j1
  exact ⟨hw.lt j0, hw.cell j0, hw.cell j1⟩
def setsBad (fs : List Fld) (ss : List (List Int)) (i : Nat) : Int := setF (ss.getD i []) (fs.getD i fld0).2.1
noncomputable def edtBad (fs : List Fld) (es : List Edt) (k : Nat) : Int := if nameB (es.getD k edt0).1 = false then 5 else if decide ((es.getD k edt0).1 ∈ seenL es k) = true then 6 else if (es.getD k edt0).2.length ≠ fs.length then 3 else scan (setsBad fs (es.getD k edt0).2) (es.getD k edt0).2.length
noncomputable def planF (fs : List Fld) (es : List Edt) : Int := if fieldsF fs ≠ 0 then fieldsF fs else if 60 < es.length then 2 else scan (edtBad fs es) es.length
section
variable {fs : List Fld} {es : List Edt} {n k : Nat} (h0 : fieldsF fs = 0) (hn : Hid (es.length = n)) (hl : n ≤ 60)
include h0 hn hl
theorem planF_at (hk : k < n) (h : Hid (∀ i, i < k → edtBad fs es i = 0)) {c : Int} (hc : edtBad fs es k = c) (hc0 : c ≠ 0) : planF fs es = c := by
  rw [planF, if_neg (by simp [h0]), hn.out, if_neg (by omega), scan_stop h.out hk (by rw [hc]; exact hc0), hc]
theorem planF_ok (h : Hid (∀ i, i < n → edtBad fs es i = 0)) : planF fs es = 0 := by
  rw [planF, if_neg (by simp [h0]), hn.out, if_neg (by omega), scan_zero _ _ h.out]
end
structure CpSt (w : World) (r : Nat) (L : List ByteArray) (bp : Nat) (cs : Array Value) (wr : World) : Prop where
  st : FsSt w r L wr
  bx : Blk wr bp cs 25
  ne : bp ≠ r
theorem CpSt.callB {w wr w' : World} {r bp : Nat} {L : List ByteArray} {cs : Array Value} (h : CpSt w r L bp cs wr) (hb : Below wr.heap.size wr w') : CpSt w r L bp cs w' := ⟨h.st.callB hb, h.bx.callB hb, h.ne⟩
theorem CpSt.alloc {w wr : World} {r bp : Nat} {L : List ByteArray} {cs : Array Value} (h : CpSt w r L bp cs wr) (o : Obj) : CpSt w r L bp cs (wr.alloc o) := h.callB ((Below.refl _ _).alloc (Nat.le_refl _) o)
def EdtG (x : Edt) : Prop := x.1.size ≤ reachBytes
theorem fields_len {fs : List Fld} (h : fieldsF fs = 0) : 0 < fs.length ∧ fs.length ≤ 12 := by
  unfold fieldsF at h
  split at h
  · cases h
  · next h1 =>
    split at h
    · cases h
    · next h2 => exact ⟨by omega, by omega⟩

set_option maxRecDepth 100000 in
set_option maxHeartbeats 2000000 in
theorem CheckPlan_any (n : Nat) (a : Option Addr) (cap : Nat) (fs : List Fld) (m : Nat) (ae : Option Addr) (ce : Nat) (es : List Edt) (w : World) (φ : Phi) (hφ : Fz φ w) (s : SlV φ a cap fs) (hn : Hid (fs.length = n)) (hm : n ≤ 9223372036854775807) (hg : Hid (∀ x ∈ fs, FldG x)) (se : SlV φ ae ce es) (hne : Hid (es.length = m)) (hme : m ≤ 9223372036854775807) (hge : Hid (∀ x ∈ es, EdtG x)) :
    Calls Tryd.prog 27 #[.agg #[.slice a n cap, .slice ae m ce]] w (IntB (planF fs es) w) := by
  have hB0 := Lib.hid (Blk.new w #[.slice a n cap, .slice ae m ce] 25)
  have hb0 : Hid (Below w.heap.size w (w.alloc (.cells #[.slice a n cap, .slice ae m ce] 25))) := Lib.hid ((Below.refl _ _).alloc (Nat.le_refl _) _)
  have hmm := @run_makeMap Tryd.prog
  go_enter Tryd.func27, Tryd.ntmps27
  go_wp2_with fail
  refine (fieldsFault_any n a cap fs _ φ (hφ.alloc _) s hn hm hg).mono ?_
  rintro e w1 ⟨rfl, hb1⟩
  obtain ⟨q, hq⟩ : ∃ q, Hid (fieldsF fs = q) := ⟨_, Lib.hid rfl⟩
  rw [hq.out]
  have HB := Lib.hid (hb0.out.trans (hb1.mono hb0.out.size))
  have HX := Lib.hid (hB0.out.callB hb1)
  clear hb1 hB0 hb0
  by_cases h0 : q = 0
  case neg =>
    have hgg : ((q : Int) != 0) = true := by simp [h0]
    have H0 := Lib.hid h0
    clear h0 hmm
    go_wp2
    go_ret
    exact ⟨ret_int (by rw [planF, hq.out, if_pos H0.out]), HB.out⟩
  subst h0
  obtain ⟨hn0, hn12⟩ := fields_len hq.out
  rw [hn.out] at hn0 hn12
  have p1 : w1.cell? ⟨w.heap.size, 1, none⟩ = some (.slice ae m ce) := HX.out.cell 1
  by_cases hl : 60 < m
  · clear hmm
    go_wp2
    go_ret
    exact ⟨ret_int (by rw [planF, hq.out, if_neg (by simp), hne.out, if_pos hl]), HB.out⟩
  have p1' : (w1.alloc (.map #[] 0)).cell? ⟨w.heap.size, 1, none⟩ = some (.slice ae m ce) := (((Below.refl w1.heap.size w1).alloc (Nat.le_refl _) _).cell (p := ⟨w.heap.size, 1, none⟩) HX.out.lt).trans p1
  have hSt : Hid (CpSt w w1.heap.size (seenL es 0) w.heap.size #[.slice a n cap, .slice ae m ce] (w1.alloc (.map #[] 0))) := Lib.hid ⟨⟨HB.out.alloc HB.out.size _, SeenW.new w1, HB.out.size⟩, HX.out.alloc _, by have := HX.out.lt; omega⟩
  go_wp2
  clear hmm p1 p1'
  generalize w1.alloc (.map #[] 0) = wm at *
  generalize w1.heap.size = r at *
  generalize hbp : w.heap.size = bp at *
  replace hbp := Lib.hid hbp
  clear HB HX
  go_loopw [24] (fun i wr => ∃ k : Nat, k ≤ m ∧ i = .int .i64 k ∧ Hid (∀ i, i < k → edtBad fs es i = 0) ∧ Hid (CpSt w r (seenL es k) bp #[.slice a n cap, .slice ae m ce] wr)) (fun i _ => m - (intOf i).toNat)
  case atStart => exact ⟨0, Nat.zero_le _, rfl, none_yet _, hSt⟩
  case round =>
    clear hSt
    obtain ⟨k, hk, rfl, hok, hS⟩ := hrel
    by_cases hlt : k < m
    · obtain ⟨b, off, rfl, f⟩ := se.edtD hne hlt
      obtain ⟨ac, cc, sk, f⟩ := f k hlt
      obtain ⟨hb, c1, c2⟩ := f wr (hφ.below hS.out.st.bel)
      have hbad : Hid (edtBad fs es k = _) := Lib.hid (edtBad.eq_1 fs es k)
      have hsl := Lib.hid (seenL_succ edt0 es k m hne.out hlt)
      have hgk := Lib.hid (hge.out _ (by rw [getD_elem0 edt0 _ _ (by rw [hne.out]; exact hlt)]; exact List.getElem_mem _) : EdtG (es.getD k edt0))
      clear f
      generalize hX : es.getD k edt0 = X at *
      obtain ⟨nm, ss⟩ := X
      replace hX := Lib.hid hX
      dsimp only at c1 c2 sk
      replace hbad : Hid (edtBad fs es k = if nameB nm = false then 5 else if decide (nm ∈ seenL es k) = true then 6 else if ss.length ≠ fs.length then 3 else scan (setsBad fs ss) ss.length) := hbad
      have hcap := sk.capn
      have hcm := sk.capm
      unfold maxLen at hcm
      have hgn : Hid (nm.size ≤ reachBytes) := hgk
      obtain ⟨ns, hns⟩ : ∃ ns, Hid (ss.length = ns) := ⟨_, Lib.hid rfl⟩
      rw [hns.out] at c2 hcap
      rw [hns.out, hn.out] at hbad
      have hS1 := Lib.hid (hS.out.alloc (.cells #[.string nm, .slice ac ns cc] 95))
      have b0 : (wr.alloc (.cells #[.string nm, .slice ac ns cc] 95)).cell? ⟨wr.heap.size, 0, none⟩ = some (.string nm) := box_at 0
      have b1 : (wr.alloc (.cells #[.string nm, .slice ac ns cc] 95)).cell? ⟨wr.heap.size, 1, none⟩ = some (.slice ac ns cc) := box_at 1
      have hrlt := hS.out.st.map.lt
      obtain ⟨o1, ho1⟩ : ∃ o, Hid (nameB nm = o) := ⟨_, Lib.hid rfl⟩
      obtain ⟨o2, ho2⟩ : ∃ o, Hid (decide (nm ∈ seenL es k) = o) := ⟨_, Lib.hid rfl⟩
      cases o1
      case false =>
        go_wp2_with fail
        refine (IsName_any _ _ hgn.out ho1.out).mono ?_
        rintro e w' ⟨rfl, rfl⟩
        go_wp2
        go_ret
        exact ⟨ret_int (planF_at hq.out hne (by omega) hlt hok (by rw [hbad.out, if_pos ho1.out]) (by decide)).symm, hS1.out.st.bel⟩
      have hlk := hS1.out.st.map.look nm ho2.out
      cases o2
      case true =>
        go_wp2_with fail
        refine (IsName_any _ _ hgn.out ho1.out).mono ?_
        rintro e w' ⟨rfl, rfl⟩
        go_wp2
        go_ret
        exact ⟨ret_int (planF_at hq.out hne (by omega) hlt hok (by rw [hbad.out, if_neg (by rw [ho1.out]; simp), if_pos ho2.out]) (by decide)).symm, hS1.out.st.bel⟩
      have hb3 : Hid (edtBad fs es k = if ns ≠ n then 3 else scan (setsBad fs ss) ns) := Lib.hid (by rw [hbad.out, if_neg (by rw [ho1.out]; simp), if_neg (by rw [ho2.out]; simp)])
      obtain ⟨o, hp, hS2, hgr⟩ := hS1.out.st.put nm
      have hne2 : wr.heap.size ≠ r := by omega
      have q1 := (far (o := 1) (hgr.block wr.heap.size (by simp) (by simpa using hne2))).1.trans b1
      have hbx2 := Lib.hid ((hgr.block bp (hS1.out.bx.lt) (by simpa using hS1.out.ne)).trans hS1.out.bx)
      have HS2 : Hid (CpSt w r (seenL es (k + 1)) bp #[.slice a n cap, .slice (some ⟨b, off, none⟩) m ce] (setMap (wr.alloc (.cells #[.string nm, .slice ac ns cc] 95)) r o)) := Lib.hid ⟨by rw [hsl.out]; exact hS2, hbx2.out, hS1.out.ne⟩
      clear hS2 hgr hbx2
      go_wp2_with fail
      refine (IsName_any _ _ hgn.out ho1.out).mono ?_
      rintro e w' ⟨rfl, rfl⟩
      have x0 := HS2.out.bx.cell 0
      replace x0 : (setMap (wr.alloc (.cells #[.string nm, .slice ac ns cc] 95)) r o).cell? ⟨bp, 0, none⟩ = some (.slice a n cap) := x0
      by_cases hns2 : ns = n
      case neg =>
        have hd : ((ns : Int) != n) = true := by simp; omega
        go_wp2
        go_ret
        exact ⟨ret_int (planF_at hq.out hne (by omega) hlt hok (by rw [hb3.out, if_pos hns2]) (by decide)).symm, HS2.out.st.bel⟩
      subst hns2
      have hd : ((ns : Int) != ns) = false := by simp
      go_wp2
      clear hd hlk hp b0 b1
      have hF2 := Lib.hid (hφ.below HS2.out.st.bel)
      generalize setMap (wr.alloc (.cells #[.string nm, .slice ac ns cc] 95)) r o = wy at *
      generalize wr.heap.size = bx at *
      go_loop [49] (fun i => ∃ j : Nat, j ≤ ns ∧ i = .int .i64 j ∧ Hid (∀ i, i < j → setsBad fs ss i = 0)) (fun i => ns - (intOf i).toNat)
      case atStart => exact ⟨0, Nat.zero_le _, rfl, none_yet _⟩
      case round =>
        obtain ⟨j, hj, rfl, hzj⟩ := hrel
        by_cases hjl : j < ns
        · obtain ⟨bs, os, rfl, fS⟩ := sk.lists hns hjl
          obtain ⟨a1, c1', sj, fS⟩ := fS j hjl
          have y1 := (fS wy hF2.out).2
          obtain ⟨bf, of_, hab, fF⟩ := s.fldD hn hjl
          obtain ⟨a2, c2', sf, fF⟩ := fF j hjl
          have y2 := (fF wy hF2.out).2.2.1
          subst hab
          have hsb : Hid (setsBad fs ss j = setF (ss.getD j []) (fs.getD j fld0).2.1) := Lib.hid rfl
          clear fS fF
          generalize ss.getD j [] = st at *
          generalize (fs.getD j fld0).2.1 = cd at *
          obtain ⟨n1, hn1⟩ : ∃ n1, Hid (st.length = n1) := ⟨_, Lib.hid rfl⟩
          obtain ⟨n2, hn2⟩ : ∃ n2, Hid (cd.length = n2) := ⟨_, Lib.hid rfl⟩
          rw [hn1.out] at y1
          rw [hn2.out] at y2
          have e1 := sj.capn
          have e2 := sj.capm
          have e3 := sf.capn
          have e4 := sf.capm
          rw [hn1.out] at e1
          rw [hn2.out] at e3
          unfold maxLen at e2 e4
          go_wp2_with fail
          refine (setFault_any n1 a1 c1' st n2 a2 c2' cd wy φ hF2.out sj hn1 (by omega) sf hn2 (by omega)).mono ?_
          rintro e w' ⟨rfl, rfl⟩
          obtain ⟨q', hq'⟩ : ∃ q, Hid (setF st cd = q) := ⟨_, Lib.hid rfl⟩
          rw [hq'.out]
          by_cases hz : q' = 0
          · have hgg : ((q' : Int) != 0) = false := by simp [hz]
            have HZ := Lib.hid hz
            clear hz
            go_wp2
            go_round
            case rel => exact ⟨j + 1, by omega, by go_num, next_ok hzj (by rw [hsb.out, hq'.out, HZ.out])⟩
            case measure => simp [intOf]; omega
          · have hgg : ((q' : Int) != 0) = true := by simp [hz]
            have HZ := Lib.hid hz
            clear hz
            go_wp2
            go_ret
            refine ⟨ret_int (planF_at hq.out hne (by omega) hlt hok (by rw [hb3.out, if_neg (by simp), scan_stop hzj.out hjl (by rw [hsb.out, hq'.out]; exact HZ.out), hsb.out, hq'.out]) HZ.out).symm, HS2.out.st.bel⟩
        · obtain rfl : j = ns := by omega
          go_wp2
          go_roundw
          case rel => exact ⟨k + 1, by omega, by go_num, next_ok hok (by rw [hb3.out, if_neg (by simp), scan_zero _ _ hzj.out]), HS2⟩
          case measure => simp [intOf]; omega
    · obtain rfl : k = m := by omega
      go_wp2
      go_ret
      exact ⟨ret_int (planF_ok hq.out hne (by omega) hok).symm, hS.out.st.bel⟩
end Go.Proofs.YtambgcijceecpaaDoor
