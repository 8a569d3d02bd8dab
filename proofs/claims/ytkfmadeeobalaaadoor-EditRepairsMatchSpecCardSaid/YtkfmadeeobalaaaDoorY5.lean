/- The walks of slices.EqualFunc with sameRepair and of the law EditRepairsMatchSpec. Conditions: the library's tables of blanks and of powers of ten read as they were laid. -/
import Derived.Test.YtkfmadeeobalaaaDoorY3
import Derived.Test.YtkfmadeeobalaaaDoorY4
import Derived.Test.YtkfmadeeobalaaaDoorI6
namespace Go.Proofs.YtkfmadeeobalaaaDoor
open Go.RowKit
set_option linter.unusedVariables false
set_option maxHeartbeats 1000000 in
theorem EqualRpr_t (n : Nat) (a1 : Option Addr) (c1 : Nat) (xs : List Rpr) (a2 : Option Addr) (c2 : Nat) (w : World) (φ : Phi) (hφ : Fz φ w) (s1 : SlV φ a1 c1 xs) (hn : Hid (xs.length = n)) (hm : n ≤ 9223372036854775807) (s2 : SlV φ a2 c2 xs) :
    Calls Tryd.prog 8 #[.slice a1 n c1, .slice a2 n c2, .func (.func 9) #[] #[]] w (fun e w' => e = .returned (.bool true) ∧ Below w.heap.size w w') := by
  have hb1 : ((n : Int) != n) = false := by simp
  go_enter Tryd.func8, Tryd.ntmps8
  go_wp2
  clear hb1
  go_loopw [17] (fun i wr => ∃ k : Nat, k ≤ n ∧ i = .int .i64 k ∧ Hid (Below w.heap.size w wr)) (fun i _ => n - (intOf i).toNat)
  case atStart => exact ⟨0, Nat.zero_le _, rfl, Lib.hid (Below.refl _ _)⟩
  case round =>
    obtain ⟨k, hk, rfl, hB⟩ := hrel
    by_cases hlt : k < n
    · obtain ⟨b1, o1, rfl, f1⟩ := s1.rpr1D hn hlt
      obtain ⟨x1, x2, x3, x4, t1, t2, f1⟩ := f1 k hlt
      obtain ⟨_, d0, d1, d2⟩ := f1 wr (hφ.below hB.out)
      obtain ⟨b2, o2, rfl, f2⟩ := s2.rpr1D hn hlt
      obtain ⟨y1, y2, y3, y4, u1, u2, f2⟩ := f2 k hlt
      generalize xs.getD k rpr1 = q at *
      obtain ⟨rc, fl, dn⟩ := q
      dsimp only at t1 t2 u1 u2 d0 d1 d2 f2
      obtain ⟨nr, hnr⟩ : ∃ j, Hid (rc.length = j) := ⟨_, Lib.hid rfl⟩
      obtain ⟨nf, hnf⟩ : ∃ j, Hid (fl.length = j) := ⟨_, Lib.hid rfl⟩
      rw [hnr.out] at d0 f2
      rw [hnf.out] at d1 f2
      obtain ⟨_, e0, e1, e2⟩ := f2 (wr.alloc (.cells #[.slice x1 nr x2, .slice x3 nf x4, .int .i64 dn] 34)) ((hφ.below hB.out).alloc _)
      have K1 := Blk.new wr #[.slice x1 nr x2, .slice x3 nf x4, .int .i64 dn] 34
      have K2 := K1.alloc (.cells #[.slice y1 nr y2, .slice y3 nf y4, .int .i64 dn] 34)
      have K3 := Blk.new (wr.alloc (.cells #[.slice x1 nr x2, .slice x3 nf x4, .int .i64 dn] 34)) #[.slice y1 nr y2, .slice y3 nf y4, .int .i64 dn] 34
      rw [alloc_size] at K3
      have p0 := K2.cell 0
      have p1 := K2.cell 1
      have p2 := K2.cell 2
      have q0 := K3.cell 0
      have q1 := K3.cell 1
      have q2 := K3.cell 2
      have HB2 := Lib.hid ((hB.out.alloc hB.out.size (.cells #[.slice x1 nr x2, .slice x3 nf x4, .int .i64 dn] 34)).alloc (by rw [alloc_size]; have := hB.out.size; omega) (.cells #[.slice y1 nr y2, .slice y3 nf y4, .int .i64 dn] 34))
      have T1 := Lib.hid t1
      have T2 := Lib.hid t2
      have U1 := Lib.hid u1
      have U2 := Lib.hid u2
      clear K1 K2 K3 f1 f2 t1 t2 u1 u2
      simp only [List.getElem?_toArray, List.getElem?_cons_zero, List.getElem?_cons_succ] at p0 p1 p2 q0 q1 q2
      go_wp2_with fail
      refine (sameRepair_t (hφ.below HB2.out) T1.out T2.out U1.out U2.out hnr hnf).mono ?_
      rintro e w3 ⟨rfl, hb3⟩
      have HB3 := Lib.hid (HB2.out.trans (hb3.mono HB2.out.size))
      clear hb3 p0 p1 p2 q0 q1 q2 d0 d1 d2 e0 e1 e2
      go_wp2
      go_roundw
      case rel => exact ⟨k + 1, by omega, by go_num, HB3⟩
      case measure => (simp [intOf] <;> omega)
    · obtain rfl : k = n := by omega
      go_wp2
      go_ret
      exact ⟨rfl, hB.out⟩
set_option maxRecDepth 100000 in
set_option maxHeartbeats 4000000 in
theorem repairs_core
  (n : Nat) (a : Option Addr) (cap : Nat) (fs : List Fld) (m : Nat) (ae : Option Addr) (ce : Nat) (es : List Edt) (w : World) (φ : Phi) (hφ : Fz φ w) (ht : TabP φ) (hpw : PowP φ) (s : SlV φ a cap fs) (hn : Hid (fs.length = n)) (hm : n ≤ 9223372036854775807) (hg : Hid (∀ x ∈ fs, FldG x)) (se : SlV φ ae ce es) (hne : Hid (es.length = m)) (hme : m ≤ 9223372036854775807) (hge : Hid (∀ x ∈ es, EdtG x))
      (nl : Nat) (a2 : Option Addr) (c2 : Nat) (l : List (List Int)) (sl : SlV φ a2 c2 l) (hll : Hid (l.length = nl)) (hml : nl ≤ 9223372036854775807) (seed : ByteArray) (hsd : seed.size ≤ reachBytes)
      (nd : Nat) (a3 : Option Addr) (c3 : Nat) (d : List Rpr) (sd : SlV φ a3 c3 d) (hdl : Hid (d.length = nd)) (hmd : nd ≤ 9223372036854775807)
    :
    Calls Tryd.prog 3 #[.agg #[.slice a n cap, .slice ae m ce], .slice a2 nl c2, .string seed, .slice a3 nd c3] w fun e w' => e = .returned (.bool true) ∧ Below w.heap.size w w' := by
  obtain ⟨F, hF⟩ : ∃ F, Hid (repsF fs es l seed = F) := ⟨_, Lib.hid rfl⟩
  obtain ⟨out, hout⟩ : ∃ o, Hid (repsL fs es l seed F = o) := ⟨_, Lib.hid rfl⟩
  obtain ⟨φ1, le1, i1, k1⟩ := (Inv.start hφ).frz (.cells #[.slice a n cap, .slice ae m ce] 25)
  have H0 := Lib.hid i1
  have LE1 := Lib.hid le1
  have HBX := Lib.hid (fun (φ' : Phi) (h : φ1.le φ') (w' : World) (hf : Fz φ' w') => (hf.blk (h _ _ k1)))
  have hFF : (F != F) = false := by simp
  replace ht := Lib.hid ht
  replace hpw := Lib.hid hpw
  have p0 : (w.alloc (.cells #[.slice a n cap, .slice ae m ce] 25)).cell? ⟨w.heap.size, 0, none⟩ = some (.slice a n cap) := box_at 0
  have p1 : (w.alloc (.cells #[.slice a n cap, .slice ae m ce] 25)).cell? ⟨w.heap.size, 1, none⟩ = some (.slice ae m ce) := box_at 1
  have C0 := Lib.hid (Repairs_any n a cap fs m ae ce es (w.alloc (.cells #[.slice a n cap, .slice ae m ce] 25)) φ1 i1.fz (hpw.out.mono le1) (s.mono le1) hn hm hg (se.mono le1) hne hme hge nl a2 c2 l (sl.mono le1) hll hml seed hsd hF hout)
  clear i1 le1 k1
  go_enter Tryd.func3, Tryd.ntmps3
  go_wp2_with fail
  clear p0 p1
  refine C0.out.mono ?_
  rintro e w1 ⟨φ2, a4, c4, rfl, hi1, s4⟩
  have H1 := Lib.hid (H0.out.call hi1)
  have L12 := Lib.hid hi1.le
  have L02 := Lib.hid (LE1.out.trans hi1.le)
  have S4 := Lib.hid s4
  clear hi1 s4 H0 C0
  obtain ⟨no, hno⟩ : ∃ k, Hid (out.length = k) := ⟨_, Lib.hid rfl⟩
  rw [hno.out]
  generalize hbp : w.heap.size = bp at *
  replace hbp := Lib.hid hbp
  have p0 : w1.cell? ⟨bp, 0, none⟩ = some (.slice a n cap) := (HBX.out _ L12.out w1 H1.out.fz).cell 0
  have p1 : w1.cell? ⟨bp, 1, none⟩ = some (.slice ae m ce) := (HBX.out _ L12.out w1 H1.out.fz).cell 1
  go_wp2_with fail
  clear p0 p1
  refine (RRepairs_any n a cap fs m ae ce es w1 φ2 H1.out.fz (ht.out.mono L02.out) (hpw.out.mono L02.out) (s.mono L02.out) hn hm hg (se.mono L02.out) hne hme hge nl a2 c2 l (sl.mono L02.out) hll hml seed hsd hF hout).mono ?_
  rintro e w2 ⟨φ3, a5, c5, rfl, hi2, s5⟩
  have H2 := Lib.hid (H1.out.call hi2)
  have L13 := Lib.hid (L12.out.trans hi2.le)
  have L03 := Lib.hid (L02.out.trans hi2.le)
  have S43 := Lib.hid (S4.out.mono hi2.le)
  have S5 := Lib.hid s5
  have hol := s5.len
  rw [hno.out] at hol ⊢
  clear hi2 s5 H1 S4
  go_wp2_with fail
  refine (EqualRpr_t no a4 c4 out a5 c5 w2 φ3 H2.out.fz S43.out hno hol S5.out).mono ?_
  rintro e w3 ⟨rfl, hb3⟩
  have H3 := Lib.hid (H2.out.callB hb3)
  obtain ⟨φ4, l34, i4, k4⟩ := H3.out.frz (.cells #[.slice a5 no c5, .slice a3 nd c3] 27)
  have HROW := Lib.hid (fun (φ' : Phi) (h : φ4.le φ') (w' : World) (hf : Fz φ' w') => (hf.blk (h _ _ k4)))
  have H4 := Lib.hid i4
  have L14 := Lib.hid (L13.out.trans l34)
  have L04 := Lib.hid (L03.out.trans l34)
  have S54 := Lib.hid (S5.out.mono l34)
  have SD4 := Lib.hid (sd.mono L04.out)
  clear hb3 H2 H3 i4 k4 l34 S43 hFF
  go_wp2
  generalize w3.alloc (.cells #[.slice a5 no c5, .slice a3 nd c3] 27) = w4 at *
  generalize w3.heap.size = bw at *
  go_loopw [46] (fun i wr => ∃ (k : Nat) (φ5 : Phi), k ≤ 2 ∧ i = .int .i64 k ∧ Hid (φ4.le φ5) ∧ Hid (Inv bp w φ φ5 wr)) (fun i _ => 2 - (intOf i).toNat)
  case atStart => exact ⟨0, φ4, by omega, rfl, Lib.hid (Phi.le_refl _), H4⟩
  case round =>
    clear H4
    obtain ⟨k, φ5, hk, rfl, L45, hI⟩ := hrel
    obtain rfl | rfl | rfl : k = 0 ∨ k = 1 ∨ k = 2 := by omega
    · obtain ⟨G, hG⟩ : ∃ G, Hid (repoF fs es l out = G) := ⟨_, Lib.hid rfl⟩
      obtain ⟨r, hr⟩ : ∃ r, Hid (repoR fs es l out G = r) := ⟨_, Lib.hid rfl⟩
      obtain ⟨x0, XL, YL⟩ := r
      have hGG : (G != G) = false := by simp
      have hxx : (x0 != x0) = false := by simp
      have L5 := Lib.hid (L04.out.trans L45.out)
      have b0 : wr.cell? ⟨bw, 0, none⟩ = some (.slice a5 no c5) := (HROW.out _ L45.out wr hI.out.fz).cell 0
      have p0 : wr.cell? ⟨bp, 0, none⟩ = some (.slice a n cap) := (HBX.out _ (L14.out.trans L45.out) wr hI.out.fz).cell 0
      have p1 : wr.cell? ⟨bp, 1, none⟩ = some (.slice ae m ce) := (HBX.out _ (L14.out.trans L45.out) wr hI.out.fz).cell 1
      go_wp2_with fail
      clear b0 p0 p1
      refine (Report_any n a cap fs m ae ce es wr φ5 hI.out.fz (s.mono L5.out) hn hm hg (se.mono L5.out) hne hme hge nl a2 c2 l (sl.mono L5.out) hll hml no a5 c5 out (S54.out.mono L45.out) hno hol hG hr).mono ?_
      rintro e w6 ⟨φ6, g1, n1, k1, g2, n2, k2, rfl, hi6, s6, s7, h6, h7⟩
      obtain ⟨φ7, l67, i7, z7⟩ := (hI.out.call hi6).frz (.cells #[.int .i64 x0, .slice g1 n1 k1, .slice g2 n2 k2] 38)
      have HX := Lib.hid (fun (φ' : Phi) (h : φ7.le φ') (w' : World) (hf : Fz φ' w') => hf.blk (h _ _ z7))
      have L57 := Lib.hid (hi6.le.trans l67)
      have S6 := Lib.hid (s6.mono l67)
      have S7 := Lib.hid (s7.mono l67)
      have H6 := Lib.hid h6
      have H7 := Lib.hid h7
      have HI7 := Lib.hid i7
      dsimp only at S6 S7 H6 H7
      have L07 := Lib.hid (L5.out.trans L57.out)
      have f0 : (w6.alloc (.cells #[.int .i64 x0, .slice g1 n1 k1, .slice g2 n2 k2] 38)).cell? ⟨bp, 0, none⟩ = some (.slice a n cap) := (HBX.out φ7 ((L14.out.trans L45.out).trans L57.out) _ i7.fz).cell 0
      have f1 : (w6.alloc (.cells #[.int .i64 x0, .slice g1 n1 k1, .slice g2 n2 k2] 38)).cell? ⟨bp, 1, none⟩ = some (.slice ae m ce) := (HBX.out φ7 ((L14.out.trans L45.out).trans L57.out) _ i7.fz).cell 1
      clear hi6 s6 s7 h6 h7 l67 i7 z7 hI
      go_wp2_with fail
      clear f0 f1
      generalize w6.alloc (.cells #[.int .i64 x0, .slice g1 n1 k1, .slice g2 n2 k2] 38) = wx at *
      generalize w6.heap.size = bx at *
      refine (RReport_any n a cap fs m ae ce es wx φ7 HI7.out.fz (ht.out.mono L07.out) (s.mono L07.out) hn hm hg (se.mono L07.out) hne hme hge nl a2 c2 l (sl.mono L07.out) hll hml no a5 c5 out (S54.out.mono (L45.out.trans L57.out)) hno hol hG hr).mono ?_
      rintro e w8 ⟨φ8, g3, n3, k3, g4, n4, k4, rfl, hi8, s8, s9, h8, h9⟩
      obtain rfl : n1 = n3 := H6.out.symm.trans h8
      obtain rfl : n2 = n4 := H7.out.symm.trans h9
      obtain ⟨φ9, l89, i9, z9⟩ := (HI7.out.call hi8).frz (.cells #[.int .i64 x0, .slice g3 n1 k3, .slice g4 n2 k4] 38)
      have HY := Lib.hid (fun (φ' : Phi) (h : φ9.le φ') (w' : World) (hf : Fz φ' w') => hf.blk (h _ _ z9))
      have L79 := Lib.hid (hi8.le.trans l89)
      have S8 := Lib.hid (s8.mono l89)
      have S9 := Lib.hid (s9.mono l89)
      have HI9 := Lib.hid i9
      dsimp only at S8 S9
      have hx9 := HX.out φ9 L79.out _ i9.fz
      have hy9 := HY.out φ9 (Phi.le_refl _) _ i9.fz
      have f0 : (w8.alloc (.cells #[.int .i64 x0, .slice g3 n1 k3, .slice g4 n2 k4] 38)).cell? ⟨bx, 0, none⟩ = some (.int .i64 x0) := hx9.cell 0
      have f1 : (w8.alloc (.cells #[.int .i64 x0, .slice g3 n1 k3, .slice g4 n2 k4] 38)).cell? ⟨bx, 1, none⟩ = some (.slice g1 n1 k1) := hx9.cell 1
      have f3 : (w8.alloc (.cells #[.int .i64 x0, .slice g3 n1 k3, .slice g4 n2 k4] 38)).cell? ⟨w8.heap.size, 0, none⟩ = some (.int .i64 x0) := hy9.cell 0
      have f4 : (w8.alloc (.cells #[.int .i64 x0, .slice g3 n1 k3, .slice g4 n2 k4] 38)).cell? ⟨w8.heap.size, 1, none⟩ = some (.slice g3 n1 k3) := hy9.cell 1
      clear hi8 s8 s9 h8 h9 l89 i9 z9 hx9 hy9 HI7
      have hn1 := S8.out.len
      have hn2 := S9.out.len
      rw [H6.out] at hn1
      rw [H7.out] at hn2
      go_wp2_with fail
      clear f0 f1 f3 f4
      generalize w8.alloc (.cells #[.int .i64 x0, .slice g3 n1 k3, .slice g4 n2 k4] 38) = wy at *
      generalize w8.heap.size = by_ at *
      refine (Equal_t n1 g1 k1 XL g3 k3 wy φ9 φ9 HI9.out.fz HI9.out.fz (S6.out.mono L79.out) H6 hn1 S8.out).mono ?_
      rintro e w10 ⟨rfl, hb10⟩
      have HI10 := Lib.hid (HI9.out.callB hb10)
      clear hb10 HI9
      have f2 : w10.cell? ⟨bx, 2, none⟩ = some (.slice g2 n2 k2) := (HX.out φ9 L79.out w10 HI10.out.fz).cell 2
      have f5 : w10.cell? ⟨by_, 2, none⟩ = some (.slice g4 n2 k4) := (HY.out φ9 (Phi.le_refl _) w10 HI10.out.fz).cell 2
      go_wp2_with fail
      clear f2 f5
      refine (Equal_t n2 g2 k2 YL g4 k4 w10 φ9 φ9 HI10.out.fz HI10.out.fz (S7.out.mono L79.out) H7 hn2 S9.out).mono ?_
      rintro e w11 ⟨rfl, hb11⟩
      have HI11 := Lib.hid (HI10.out.callB hb11)
      clear hb11 HI10
      go_wp2
      go_roundw
      case rel => exact ⟨0 + 1, φ9, by omega, by go_num, Lib.hid ((L45.out.trans L57.out).trans L79.out), HI11⟩
      case measure => (simp [intOf] <;> omega)
    · obtain ⟨G, hG⟩ : ∃ G, Hid (repoF fs es l d = G) := ⟨_, Lib.hid rfl⟩
      obtain ⟨r, hr⟩ : ∃ r, Hid (repoR fs es l d G = r) := ⟨_, Lib.hid rfl⟩
      obtain ⟨x0, XL, YL⟩ := r
      have hGG : (G != G) = false := by simp
      have hxx : (x0 != x0) = false := by simp
      have L5 := Lib.hid (L04.out.trans L45.out)
      have b0 : wr.cell? ⟨bw, 1, none⟩ = some (.slice a3 nd c3) := (HROW.out _ L45.out wr hI.out.fz).cell 1
      have p0 : wr.cell? ⟨bp, 0, none⟩ = some (.slice a n cap) := (HBX.out _ (L14.out.trans L45.out) wr hI.out.fz).cell 0
      have p1 : wr.cell? ⟨bp, 1, none⟩ = some (.slice ae m ce) := (HBX.out _ (L14.out.trans L45.out) wr hI.out.fz).cell 1
      go_wp2_with fail
      clear b0 p0 p1
      refine (Report_any n a cap fs m ae ce es wr φ5 hI.out.fz (s.mono L5.out) hn hm hg (se.mono L5.out) hne hme hge nl a2 c2 l (sl.mono L5.out) hll hml nd a3 c3 d (SD4.out.mono L45.out) hdl hmd hG hr).mono ?_
      rintro e w6 ⟨φ6, g1, n1, k1, g2, n2, k2, rfl, hi6, s6, s7, h6, h7⟩
      obtain ⟨φ7, l67, i7, z7⟩ := (hI.out.call hi6).frz (.cells #[.int .i64 x0, .slice g1 n1 k1, .slice g2 n2 k2] 38)
      have HX := Lib.hid (fun (φ' : Phi) (h : φ7.le φ') (w' : World) (hf : Fz φ' w') => hf.blk (h _ _ z7))
      have L57 := Lib.hid (hi6.le.trans l67)
      have S6 := Lib.hid (s6.mono l67)
      have S7 := Lib.hid (s7.mono l67)
      have H6 := Lib.hid h6
      have H7 := Lib.hid h7
      have HI7 := Lib.hid i7
      dsimp only at S6 S7 H6 H7
      have L07 := Lib.hid (L5.out.trans L57.out)
      have f0 : (w6.alloc (.cells #[.int .i64 x0, .slice g1 n1 k1, .slice g2 n2 k2] 38)).cell? ⟨bp, 0, none⟩ = some (.slice a n cap) := (HBX.out φ7 ((L14.out.trans L45.out).trans L57.out) _ i7.fz).cell 0
      have f1 : (w6.alloc (.cells #[.int .i64 x0, .slice g1 n1 k1, .slice g2 n2 k2] 38)).cell? ⟨bp, 1, none⟩ = some (.slice ae m ce) := (HBX.out φ7 ((L14.out.trans L45.out).trans L57.out) _ i7.fz).cell 1
      clear hi6 s6 s7 h6 h7 l67 i7 z7 hI
      go_wp2_with fail
      clear f0 f1
      generalize w6.alloc (.cells #[.int .i64 x0, .slice g1 n1 k1, .slice g2 n2 k2] 38) = wx at *
      generalize w6.heap.size = bx at *
      refine (RReport_any n a cap fs m ae ce es wx φ7 HI7.out.fz (ht.out.mono L07.out) (s.mono L07.out) hn hm hg (se.mono L07.out) hne hme hge nl a2 c2 l (sl.mono L07.out) hll hml nd a3 c3 d (SD4.out.mono (L45.out.trans L57.out)) hdl hmd hG hr).mono ?_
      rintro e w8 ⟨φ8, g3, n3, k3, g4, n4, k4, rfl, hi8, s8, s9, h8, h9⟩
      obtain rfl : n1 = n3 := H6.out.symm.trans h8
      obtain rfl : n2 = n4 := H7.out.symm.trans h9
      obtain ⟨φ9, l89, i9, z9⟩ := (HI7.out.call hi8).frz (.cells #[.int .i64 x0, .slice g3 n1 k3, .slice g4 n2 k4] 38)
      have HY := Lib.hid (fun (φ' : Phi) (h : φ9.le φ') (w' : World) (hf : Fz φ' w') => hf.blk (h _ _ z9))
      have L79 := Lib.hid (hi8.le.trans l89)
      have S8 := Lib.hid (s8.mono l89)
      have S9 := Lib.hid (s9.mono l89)
      have HI9 := Lib.hid i9
      dsimp only at S8 S9
      have hx9 := HX.out φ9 L79.out _ i9.fz
      have hy9 := HY.out φ9 (Phi.le_refl _) _ i9.fz
      have f0 : (w8.alloc (.cells #[.int .i64 x0, .slice g3 n1 k3, .slice g4 n2 k4] 38)).cell? ⟨bx, 0, none⟩ = some (.int .i64 x0) := hx9.cell 0
      have f1 : (w8.alloc (.cells #[.int .i64 x0, .slice g3 n1 k3, .slice g4 n2 k4] 38)).cell? ⟨bx, 1, none⟩ = some (.slice g1 n1 k1) := hx9.cell 1
      have f3 : (w8.alloc (.cells #[.int .i64 x0, .slice g3 n1 k3, .slice g4 n2 k4] 38)).cell? ⟨w8.heap.size, 0, none⟩ = some (.int .i64 x0) := hy9.cell 0
      have f4 : (w8.alloc (.cells #[.int .i64 x0, .slice g3 n1 k3, .slice g4 n2 k4] 38)).cell? ⟨w8.heap.size, 1, none⟩ = some (.slice g3 n1 k3) := hy9.cell 1
      clear hi8 s8 s9 h8 h9 l89 i9 z9 hx9 hy9 HI7
      have hn1 := S8.out.len
      have hn2 := S9.out.len
      rw [H6.out] at hn1
      rw [H7.out] at hn2
      go_wp2_with fail
      clear f0 f1 f3 f4
      generalize w8.alloc (.cells #[.int .i64 x0, .slice g3 n1 k3, .slice g4 n2 k4] 38) = wy at *
      generalize w8.heap.size = by_ at *
      refine (Equal_t n1 g1 k1 XL g3 k3 wy φ9 φ9 HI9.out.fz HI9.out.fz (S6.out.mono L79.out) H6 hn1 S8.out).mono ?_
      rintro e w10 ⟨rfl, hb10⟩
      have HI10 := Lib.hid (HI9.out.callB hb10)
      clear hb10 HI9
      have f2 : w10.cell? ⟨bx, 2, none⟩ = some (.slice g2 n2 k2) := (HX.out φ9 L79.out w10 HI10.out.fz).cell 2
      have f5 : w10.cell? ⟨by_, 2, none⟩ = some (.slice g4 n2 k4) := (HY.out φ9 (Phi.le_refl _) w10 HI10.out.fz).cell 2
      go_wp2_with fail
      clear f2 f5
      refine (Equal_t n2 g2 k2 YL g4 k4 w10 φ9 φ9 HI10.out.fz HI10.out.fz (S7.out.mono L79.out) H7 hn2 S9.out).mono ?_
      rintro e w11 ⟨rfl, hb11⟩
      have HI11 := Lib.hid (HI10.out.callB hb11)
      clear hb11 HI10
      go_wp2
      go_roundw
      case rel => exact ⟨1 + 1, φ9, by omega, by go_num, Lib.hid ((L45.out.trans L57.out).trans L79.out), HI11⟩
      case measure => (simp [intOf] <;> omega)
    · go_wp2
      go_ret
      exact ⟨rfl, by rw [hbp.out]; exact hI.out.bel⟩
end Go.Proofs.YtkfmadeeobalaaaDoor
