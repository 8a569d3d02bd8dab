/- The walk of Report. Conditions: none beyond what the claim form gives. -/
import Derived.Test.YtkfmadeeobalaaaDoorY1
import Derived.Test.YtkfmadeeobalaaaDoorQB
import Derived.Deep.RegionHeld3
import Derived.Deep.OwnRows
namespace Go.Proofs.YtkfmadeeobalaaaDoor
open Go.RowKit
set_option linter.unusedVariables false
/-- slices.Equal of two slices of ints. -/
theorem Equal_b (n1 : Nat) (a1 : Option Addr) (c1 : Nat) (xs : List Int) (n2 : Nat) (a2 : Option Addr) (c2 : Nat) (ys : List Int) (w : World) (φ : Phi) (hφ : Fz φ w) (s1 : SlV φ a1 c1 xs) (hn1 : Hid (xs.length = n1)) (hm1 : n1 ≤ 9223372036854775807) (s2 : SlV φ a2 c2 ys) (hn2 : Hid (ys.length = n2)) {b : Bool} (hb : Hid (decide (xs = ys) = b)) :
    Calls Tryd.prog 12 #[.slice a1 n1 c1, .slice a2 n2 c2] w (fun e w' => e = .returned (.bool b) ∧ Below w.heap.size w w') := by
  by_cases hne : n1 = n2
  case neg =>
    have hb1 : ((n1 : Int) != n2) = true := by simp; omega
    have HB : Hid (b = false) := Lib.hid (by
      rw [← hb.out]; apply decide_eq_false
      intro e; apply hne; rw [← hn1.out, ← hn2.out, e])
    clear hne
    go_enter Tryd.func12, Tryd.ntmps12
    go_wp2
    go_ret
    exact ⟨ret_bool HB.out.symm, Below.refl _ _⟩
  subst hne
  have hb1 : ((n1 : Int) != n1) = false := by simp
  go_enter Tryd.func12, Tryd.ntmps12
  go_wp2
  clear hb1
  go_loopw [13] (fun i wr => ∃ k : Nat, k ≤ n1 ∧ i = .int .i64 k ∧ Hid (∀ j, j < k → xs.getD j 0 = ys.getD j 0) ∧ Hid (Below w.heap.size w wr)) (fun i _ => n1 - (intOf i).toNat)
  case atStart => exact ⟨0, Nat.zero_le _, rfl, Lib.hid (fun j hj => by omega), Lib.hid (Below.refl _ _)⟩
  case round =>
    obtain ⟨k, hk, rfl, hE, hB⟩ := hrel
    by_cases hlt : k < n1
    · obtain ⟨b1, o1, rfl, f1⟩ := s1.intsD hn1 hlt
      have d1 := (f1 k hlt wr (hφ.below hB.out)).2
      obtain ⟨b2, o2, rfl, f2⟩ := s2.intsD hn2 hlt
      have d2 := (f2 k hlt wr (hφ.below hB.out)).2
      have HN : Hid (xs.getD k 0 = ys.getD k 0 → ∀ j, j < k + 1 → xs.getD j 0 = ys.getD j 0) := Lib.hid (fun h j hj => by
        by_cases e : j = k
        · rw [e]; exact h
        · exact hE.out j (by omega))
      have HD : Hid (xs.getD k 0 ≠ ys.getD k 0 → b = false) := Lib.hid (fun h => by
        rw [← hb.out]; apply decide_eq_false
        intro e; apply h; rw [e])
      clear f1 f2
      generalize xs.getD k 0 = x at *
      generalize ys.getD k 0 = y at *
      by_cases hxy : x = y
      · subst hxy
        have hne : (x != x) = false := by simp
        have H2 := Lib.hid (HN.out rfl)
        go_wp2
        go_quiet (fail)
        go_wp2
        go_roundw
        case rel => exact ⟨k + 1, by omega, by go_num, H2, Lib.hid (bdrewN hB.out _)⟩
        case measure => (simp [intOf] <;> omega)
      · have hne : (x != y) = true := by simp [hxy]
        have H2 := Lib.hid (HD.out hxy)
        clear hxy
        go_wp2
        go_quiet (fail)
        go_wp2
        go_ret
        exact ⟨ret_bool H2.out.symm, bdrewN hB.out _⟩
    · obtain rfl : k = n1 := by omega
      have H2 : Hid (b = true) := Lib.hid (by
        rw [← hb.out]; apply decide_eq_true
        exact ext_getD0 0 (by rw [hn1.out, hn2.out]) (fun i hi => hE.out i (by rw [hn1.out] at hi; exact hi)))
      go_wp2
      go_ret
      exact ⟨ret_bool H2.out.symm, hB.out⟩
/-- make of ints, as an equation. -/
theorem makeI_eq (n : Nat) (h : 8 * n ≤ 281474976710656) (w : World) : (Instr.makeSlice 32 (.int .i64 (n : Int)) (.int .i64 (n : Int))).run Tryd.prog w = .ok (.slice (some ⟨w.heap.size, 0, none⟩) n n) (w.alloc (.cells (madeCells #[.int .i64 0] n) 3)) :=
  run_make_row' 32 3 (.int .i64 0) 8 Tryd.underlying32 (by kernel_rfl) rfl .i64 .i64 n h (by omega) w
theorem madeCells_list (n : Nat) : (madeCells #[Value.int .i64 0] n).toList = List.replicate n (Value.int .i64 0) := by
  unfold madeCells
  rw [Array.toList_map, Array.toList_range]
  apply List.ext_getElem
  · simp
  · intro i h1 h2
    simp [Nat.mod_one]
theorem Own.made {B : Nat} {w0 w : World} {φ0 φ : Phi} (hi : Inv B w0 φ0 φ w) (E : TypeId) (n : Nat) (hn : n ≤ maxLen) : Own B φ (w.alloc (.cells (madeCells #[.int .i64 0] n) E)) E (some ⟨w.heap.size, 0, none⟩) n (List.replicate n (0 : Int)) := by
  have hr : RepL φ (List.replicate n (0 : Int)) (madeCells #[.int .i64 0] n).toList := by
    rw [madeCells_list]
    have h := RepL.replicate (φ := φ) (α := Int) (y := 0) (rfl : Rep.rep φ (0 : Int) [Value.int .i64 0]) n
    have e : (List.replicate n [Value.int .i64 0]).flatten = List.replicate n (Value.int .i64 0) := by simp
    rwa [e] at h
  have := Own.lit hi E hr (by rw [List.length_replicate]; exact hn)
  rwa [List.length_replicate] at this
theorem Own.made' {B g : Nat} {w0 w : World} {φ0 φ : Phi} (hi : Inv B w0 φ0 φ w) (E : TypeId) (n : Nat) (hn : n ≤ maxLen) (hg : w.heap.size = g) : Own B φ (w.alloc (.cells (madeCells #[.int .i64 0] n) E)) E (some ⟨g, 0, none⟩) n (List.replicate n (0 : Int)) := by subst hg; exact Own.made hi E n hn
theorem Blk.new' {w : World} {g : Nat} {cs : Array Value} {T : TypeId} (hg : w.heap.size = g) : Blk (w.alloc (.cells cs T)) g cs T := by subst hg; exact Blk.new _ _ _
theorem cell_alloc {w : World} {o : Obj} {a : Addr} {v : Value} (h : w.cell? a = some v) : (w.alloc o).cell? a = some v := (World.cell?_alloc_lt w o a (World.block_lt_of_cell? w a h)).trans h
theorem SlV.rpr1D {φ : Phi} {a : Option Addr} {cap : Nat} {xs : List Rpr} (h : SlV φ a cap xs) {k n : Nat} (hn : Hid (xs.length = n)) (hk : k < n) :
    ∃ b off, a = some ⟨b, off, none⟩ ∧ ∀ k, k < n → ∃ ar cr af cf, SlV φ ar cr (xs.getD k rpr1).1 ∧ SlV φ af cf (xs.getD k rpr1).2.1 ∧ ∀ w, Fz φ w → b < w.heap.size ∧ w.cell? ⟨b, off + k * 3, none⟩ = some (.slice ar (xs.getD k rpr1).1.length cr) ∧ w.cell? ⟨b, off + k * 3 + 1, none⟩ = some (.slice af (xs.getD k rpr1).2.1.length cf) ∧ w.cell? ⟨b, off + k * 3 + 2, none⟩ = some (.int .i64 (xs.getD k rpr1).2.2) := by
  obtain ⟨b, off, ha, hc⟩ := h.cellsD rpr1 hn hk
  refine ⟨b, off, ha, fun k hk => ?_⟩
  obtain ⟨cs, ⟨c, d, rfl, ⟨ar, cr, rfl, h1⟩, c2, d2, rfl, ⟨af, cf, rfl, h2⟩, h3⟩, hj⟩ := hc k hk
  cases h3
  refine ⟨ar, cr, af, cf, h1, h2, fun w hw => ?_⟩
  have j0 := hj 0 (by simp)
  have j1 := hj 1 (by simp)
  have j2 := hj 2 (by simp)
  simp [Rep.size] at j0 j1 j2
  exact ⟨hw.lt j0, hw.cell j0, hw.cell j1, hw.cell j2⟩
set_option maxRecDepth 100000 in
set_option maxHeartbeats 4000000 in
theorem Report_any
  (n : Nat) (a : Option Addr) (cap : Nat) (fs : List Fld) (m : Nat) (ae : Option Addr) (ce : Nat) (es : List Edt) (w : World) (φ : Phi) (hφ : Fz φ w) (s : SlV φ a cap fs) (hn : Hid (fs.length = n)) (hm : n ≤ 9223372036854775807) (hg : Hid (∀ x ∈ fs, FldG x)) (se : SlV φ ae ce es) (hne : Hid (es.length = m)) (hme : m ≤ 9223372036854775807) (hge : Hid (∀ x ∈ es, EdtG x))
      (nl : Nat) (a2 : Option Addr) (c2 : Nat) (l : List (List Int)) (sl : SlV φ a2 c2 l) (hll : Hid (l.length = nl)) (hml : nl ≤ 9223372036854775807)
      (nd : Nat) (a3 : Option Addr) (c3 : Nat) (d : List Rpr) (sd : SlV φ a3 c3 d) (hdl : Hid (d.length = nd)) (hmd : nd ≤ 9223372036854775807)
    {F : Int} (hF : Hid (repoF fs es l d = F)) {r : RpS} (ho : Hid (repoR fs es l d F = r)) :
    Calls Tryd.prog 10 #[.agg #[.slice a n cap, .slice ae m ce], .slice a2 nl c2, .slice a3 nd c3] w (RepoPost r F φ w) := by
  obtain ⟨φ1, le1, i1, k1⟩ := (Inv.start hφ).frz (.cells #[.slice a n cap, .slice ae m ce] 25)
  have hRS := Lib.hid (ResSt.start i1 #[.int .i64 0, .slice none 0 0, .slice none 0 0] 38)
  rw [alloc_size] at hRS
  have K1 := Lib.hid k1
  have LE1 := Lib.hid le1
  have HBX := Lib.hid (fun (φ' : Phi) (h : φ1.le φ') (w' : World) (hf : Fz φ' w') => (hf.blk (h _ _ k1)))
  have p0 : ((w.alloc (.cells #[.slice a n cap, .slice ae m ce] 25)).alloc (.cells #[.int .i64 0, .slice none 0 0, .slice none 0 0] 38)).cell? ⟨w.heap.size, 0, none⟩ = some (.slice a n cap) := (hRS.out.inv.fz.blk K1.out).cell 0
  have p1 : ((w.alloc (.cells #[.slice a n cap, .slice ae m ce] 25)).alloc (.cells #[.int .i64 0, .slice none 0 0, .slice none 0 0] 38)).cell? ⟨w.heap.size, 1, none⟩ = some (.slice ae m ce) := (hRS.out.inv.fz.blk K1.out).cell 1
  have C0 := Lib.hid (rulesOf_any n a cap fs m ae ce es ((w.alloc (.cells #[.slice a n cap, .slice ae m ce] 25)).alloc (.cells #[.int .i64 0, .slice none 0 0, .slice none 0 0] 38)) φ1 hRS.out.inv.fz (s.mono le1) hn hm hg (se.mono le1) hne hme hge)
  clear i1 k1 le1
  go_enter Tryd.func10, Tryd.ntmps10
  go_wp2_with fail
  clear p0 p1
  generalize hbp : w.heap.size = bp at *
  replace hbp := Lib.hid hbp
  refine C0.out.mono ?_
  rintro e w1 ⟨φ2, hi1, ⟨hp, rfl⟩ | ⟨hp, br, rfl, hR⟩⟩
  · have H1 := Lib.hid (hRS.out.call hi1)
    obtain ⟨P, hP⟩ : ∃ P, Hid (planF fs es = P) := ⟨_, Lib.hid rfl⟩
    rw [hP.out] at hp ⊢
    have hpp : (P != 0) = true := by simp [hp]
    have HF : Hid (F = P) := Lib.hid (by rw [← hF.out, repoF, hP.out, if_pos hp])
    have HO : Hid (r = (0, [], [])) := Lib.hid (by rw [← ho.out, repoR, HF.out, if_neg hp])
    clear hi1 hRS C0 hp
    generalize bp + 1 = b6 at *
    have z0 : _ = some (Value.int .i64 0) := H1.out.k.cell 0
    have z1 : _ = some (Value.slice none 0 0) := H1.out.k.cell 1
    have z2 : _ = some (Value.slice none 0 0) := H1.out.k.cell 2
    have x0 := H1.out.k.frz 0
    have x1 := H1.out.k.frz 1
    have x2 := H1.out.k.frz 2
    have hIZ := Lib.hid (((H1.out.inv.setCell H1.out.l H1.out.f (off := 0) (Value.int .i64 0)).setCell H1.out.l H1.out.f (off := 1) (Value.slice none 0 0)).setCell H1.out.l H1.out.f (off := 2) (Value.slice none 0 0))
    have hBZ := Lib.hid (((H1.out.k.set 0 (Value.int .i64 0)).set 1 (Value.slice none 0 0)).set 2 (Value.slice none 0 0))
    go_wp2
    have e0 : _ = some (Value.int .i64 0) := hBZ.out.cell 0
    have e1 : _ = some (Value.slice none 0 0) := hBZ.out.cell 1
    have e2 : _ = some (Value.slice none 0 0) := hBZ.out.cell 2
    (try simp only [Exit.inBlock, Exit.then])
    refine bodyPost_ret (v := .tuple #[.agg #[(Value.int .i64 0), (Value.slice none 0 0), (Value.slice none 0 0)], .int .i64 P]) (by simp [results, Tryd.results10, go_sem, e0, e1, e2]) rfl ?_
    obtain rfl := HF.out
    obtain rfl := HO.out
    exact ⟨_, none, 0, 0, none, 0, 0, rfl, hIZ.out, SlV.empty _, SlV.empty _, rfl, rfl⟩
  have H1 := Lib.hid (hRS.out.call hi1)
  have L12 := Lib.hid hi1.le
  obtain ⟨a', cap', ae', ce', ab', cb', hV⟩ := hR.open_ hp rfl rfl
  obtain ⟨lf, hlf⟩ : ∃ k, Hid (listF fs.length l = k) := ⟨_, Lib.hid rfl⟩
  have hF2 := hF.out
  rw [repoF, if_neg (by simp [hp]), hlf.out, hdl.out, hll.out] at hF2
  have HF0 := Lib.hid hF2
  have L02 := Lib.hid (LE1.out.trans L12.out)
  have C1 := Lib.hid (listFault_any hV w1 H1.out.inv.fz nl a2 c2 l (sl.mono L02.out) hll hlf)
  clear hi1 hRS C0 hp hF hF2 hR
  generalize bp + 1 = b6 at *
  by_cases hz : lf = 0
  case neg =>
    have hlb : (lf != 0) = true := by simp [hz]
    have HF : Hid (F = lf) := Lib.hid (by rw [← HF0.out, if_pos hz])
    have HO : Hid (r = (0, [], [])) := Lib.hid (by rw [← ho.out, repoR, HF.out, if_neg hz])
    clear hz
    go_wp2_with fail
    refine C1.out.mono ?_
    rintro e w' ⟨rfl, rfl⟩
    have z0 : _ = some (Value.int .i64 0) := H1.out.k.cell 0
    have z1 : _ = some (Value.slice none 0 0) := H1.out.k.cell 1
    have z2 : _ = some (Value.slice none 0 0) := H1.out.k.cell 2
    have x0 := H1.out.k.frz 0
    have x1 := H1.out.k.frz 1
    have x2 := H1.out.k.frz 2
    have hIZ := Lib.hid (((H1.out.inv.setCell H1.out.l H1.out.f (off := 0) (Value.int .i64 0)).setCell H1.out.l H1.out.f (off := 1) (Value.slice none 0 0)).setCell H1.out.l H1.out.f (off := 2) (Value.slice none 0 0))
    have hBZ := Lib.hid (((H1.out.k.set 0 (Value.int .i64 0)).set 1 (Value.slice none 0 0)).set 2 (Value.slice none 0 0))
    go_wp2
    have e0 : _ = some (Value.int .i64 0) := hBZ.out.cell 0
    have e1 : _ = some (Value.slice none 0 0) := hBZ.out.cell 1
    have e2 : _ = some (Value.slice none 0 0) := hBZ.out.cell 2
    (try simp only [Exit.inBlock, Exit.then])
    refine bodyPost_ret (v := .tuple #[.agg #[(Value.int .i64 0), (Value.slice none 0 0), (Value.slice none 0 0)], .int .i64 lf]) (by simp [results, Tryd.results10, go_sem, e0, e1, e2]) rfl ?_
    obtain rfl := HF.out
    obtain rfl := HO.out
    exact ⟨_, none, 0, 0, none, 0, 0, rfl, hIZ.out, SlV.empty _, SlV.empty _, rfl, rfl⟩
  subst hz
  obtain ⟨hd3, hdr⟩ := listF_zero hlf.out
  rw [hll.out] at hd3 hdr
  have HDR := Lib.hid hdr
  have hF2 := HF0.out
  rw [if_neg (by simp)] at hF2
  have HF1 := Lib.hid hF2
  clear hdr hF2 HF0
  by_cases hln : nd = nl
  case neg =>
    have hnn : ((nd : Int) != nl) = true := by simp; omega
    have HF : Hid (F = 3) := Lib.hid (by rw [← HF1.out, if_pos hln])
    have HO : Hid (r = (0, [], [])) := Lib.hid (by rw [← ho.out, repoR, HF.out]; rfl)
    clear hln
    go_wp2_with fail
    refine C1.out.mono ?_
    rintro e w' ⟨rfl, rfl⟩
    have z0 : _ = some (Value.int .i64 0) := H1.out.k.cell 0
    have z1 : _ = some (Value.slice none 0 0) := H1.out.k.cell 1
    have z2 : _ = some (Value.slice none 0 0) := H1.out.k.cell 2
    have x0 := H1.out.k.frz 0
    have x1 := H1.out.k.frz 1
    have x2 := H1.out.k.frz 2
    have hIZ := Lib.hid (((H1.out.inv.setCell H1.out.l H1.out.f (off := 0) (Value.int .i64 0)).setCell H1.out.l H1.out.f (off := 1) (Value.slice none 0 0)).setCell H1.out.l H1.out.f (off := 2) (Value.slice none 0 0))
    have hBZ := Lib.hid (((H1.out.k.set 0 (Value.int .i64 0)).set 1 (Value.slice none 0 0)).set 2 (Value.slice none 0 0))
    go_wp2
    have e0 : _ = some (Value.int .i64 0) := hBZ.out.cell 0
    have e1 : _ = some (Value.slice none 0 0) := hBZ.out.cell 1
    have e2 : _ = some (Value.slice none 0 0) := hBZ.out.cell 2
    (try simp only [Exit.inBlock, Exit.then])
    refine bodyPost_ret (v := .tuple #[.agg #[(Value.int .i64 0), (Value.slice none 0 0), (Value.slice none 0 0)], .int .i64 3]) (by simp [results, Tryd.results10, go_sem, e0, e1, e2]) rfl ?_
    obtain rfl := HF.out
    obtain rfl := HO.out
    exact ⟨_, none, 0, 0, none, 0, 0, rfl, hIZ.out, SlV.empty _, SlV.empty _, rfl, rfl⟩
  subst hln
  have hnn : ((nd : Int) != nd) = false := by simp
  have HF2 : Hid (scan (rpF fs.length l d) nd = F) := Lib.hid (by rw [← HF1.out, if_neg (by simp)])
  have OK := Lib.hid hV.ok
  have h12 := OK.out.pos
  have h60 := OK.out.cnt
  have HO : Hid (r = if F = 0 then rpK es n m l d nd else (0, [], [])) := Lib.hid (by rw [← ho.out, repoR, hn.out, hne.out, hdl.out])
  rw [hn.out, hne.out] at hV OK
  rw [hn.out] at h12 HF2
  rw [hne.out] at h60
  have HDR2 : Hid (∀ i, i < nd → (l.getD i []).length = n) := Lib.hid (fun i hi => (HDR.out i hi).trans hn.out)
  clear hlf HDR hn hne HF1 ho
  have p0 : w1.cell? ⟨bp, 0, none⟩ = some (.slice a n cap) := (HBX.out φ2 L12.out w1 H1.out.inv.fz).cell 0
  have p1 : w1.cell? ⟨bp, 1, none⟩ = some (.slice ae m ce) := (HBX.out φ2 L12.out w1 H1.out.inv.fz).cell 1
  have HPP := Lib.hid (fun (w' : World) (hf : Fz φ2 w') => And.intro ((HBX.out φ2 L12.out w' hf).cell 0) ((HBX.out φ2 L12.out w' hf).cell 1))
  go_wp2_with fail
  refine C1.out.mono ?_
  rintro e w' ⟨rfl, rfl⟩
  go_wp2
  have em := makeI_eq m (by omega)
  have en := makeI_eq n (by omega)
  have q0 : ∀ o W, World.cell? W ⟨bp, 0, none⟩ = some (.slice a n cap) → (World.alloc W o).cell? ⟨bp, 0, none⟩ = some (.slice a n cap) := fun o W h => cell_alloc h
  have q1 : ∀ o W, World.cell? W ⟨bp, 1, none⟩ = some (.slice ae m ce) → (World.alloc W o).cell? ⟨bp, 1, none⟩ = some (.slice ae m ce) := fun o W h => cell_alloc h
  obtain ⟨s0, hs0⟩ : ∃ s, Hid (w1.heap.size = s) := ⟨_, Lib.hid rfl⟩
  obtain ⟨s1, hs1⟩ : ∃ s, Hid (s0 + 1 = s) := ⟨_, Lib.hid rfl⟩
  obtain ⟨s2, hs2⟩ : ∃ s, Hid (s1 + 1 = s) := ⟨_, Lib.hid rfl⟩
  have hmx : m ≤ maxLen := by unfold maxLen; omega
  have hnx : n ≤ maxLen := by unfold maxLen; omega
  apply wp_region_cut3 (S := fun b10 g1 g2 W => Hid (RtSt w φ φ2 b6 b10 g1 g2 m n m n 0 (List.replicate m 0) (List.replicate n 0) W))
  case h1 =>
    go_region
    all_goals
      simp only [hs0.out, hs1.out, hs2.out]
      first
        | (refine onlyN_mk ⟨s2, s0, s1, by rfl, ?_⟩
           obtain rfl := hs2.out
           obtain rfl := hs1.out
           obtain rfl := hs0.out
           have hi := Inv.start (H1.out.inv.fz)
           refine Lib.hid (RtSt.make H1.out (((hi.alloc _).alloc _).alloc _).drew.bel ?_ ?_ ?_ (by omega) (by omega) (by omega) (by omega))
           · first
               | exact (((Own.made' hi _ m hmx rfl).alloc _).alloc _).drew
               | exact ((Own.made' (hi.alloc _) _ m hmx (alloc_size _ _)).alloc _).drew
               | exact (Own.made' ((hi.alloc _).alloc _) _ m hmx (by rw [alloc_size, alloc_size])).drew
           · first
               | exact (((Own.made' hi _ n hnx rfl).alloc _).alloc _).drew
               | exact ((Own.made' (hi.alloc _) _ n hnx (alloc_size _ _)).alloc _).drew
               | exact (Own.made' ((hi.alloc _).alloc _) _ n hnx (by rw [alloc_size, alloc_size])).drew
           · first
               | exact ((Blk.new' rfl).alloc _).alloc _
               | exact (Blk.new' (alloc_size _ _)).alloc _
               | exact Blk.new' (by rw [alloc_size, alloc_size]))
        | (refine onlyN_mk ⟨s1, s0, s2, by rfl, ?_⟩
           obtain rfl := hs2.out
           obtain rfl := hs1.out
           obtain rfl := hs0.out
           have hi := Inv.start (H1.out.inv.fz)
           refine Lib.hid (RtSt.make H1.out (((hi.alloc _).alloc _).alloc _).drew.bel ?_ ?_ ?_ (by omega) (by omega) (by omega) (by omega))
           · first
               | exact (((Own.made' hi _ m hmx rfl).alloc _).alloc _).drew
               | exact ((Own.made' (hi.alloc _) _ m hmx (alloc_size _ _)).alloc _).drew
               | exact (Own.made' ((hi.alloc _).alloc _) _ m hmx (by rw [alloc_size, alloc_size])).drew
           · first
               | exact (((Own.made' hi _ n hnx rfl).alloc _).alloc _).drew
               | exact ((Own.made' (hi.alloc _) _ n hnx (alloc_size _ _)).alloc _).drew
               | exact (Own.made' ((hi.alloc _).alloc _) _ n hnx (by rw [alloc_size, alloc_size])).drew
           · first
               | exact ((Blk.new' rfl).alloc _).alloc _
               | exact (Blk.new' (alloc_size _ _)).alloc _
               | exact Blk.new' (by rw [alloc_size, alloc_size]))
        | (refine onlyN_mk ⟨s2, s1, s0, by rfl, ?_⟩
           obtain rfl := hs2.out
           obtain rfl := hs1.out
           obtain rfl := hs0.out
           have hi := Inv.start (H1.out.inv.fz)
           refine Lib.hid (RtSt.make H1.out (((hi.alloc _).alloc _).alloc _).drew.bel ?_ ?_ ?_ (by omega) (by omega) (by omega) (by omega))
           · first
               | exact (((Own.made' hi _ m hmx rfl).alloc _).alloc _).drew
               | exact ((Own.made' (hi.alloc _) _ m hmx (alloc_size _ _)).alloc _).drew
               | exact (Own.made' ((hi.alloc _).alloc _) _ m hmx (by rw [alloc_size, alloc_size])).drew
           · first
               | exact (((Own.made' hi _ n hnx rfl).alloc _).alloc _).drew
               | exact ((Own.made' (hi.alloc _) _ n hnx (alloc_size _ _)).alloc _).drew
               | exact (Own.made' ((hi.alloc _).alloc _) _ n hnx (by rw [alloc_size, alloc_size])).drew
           · first
               | exact ((Blk.new' rfl).alloc _).alloc _
               | exact (Blk.new' (alloc_size _ _)).alloc _
               | exact Blk.new' (by rw [alloc_size, alloc_size]))
        | (refine onlyN_mk ⟨s1, s2, s0, by rfl, ?_⟩
           obtain rfl := hs2.out
           obtain rfl := hs1.out
           obtain rfl := hs0.out
           have hi := Inv.start (H1.out.inv.fz)
           refine Lib.hid (RtSt.make H1.out (((hi.alloc _).alloc _).alloc _).drew.bel ?_ ?_ ?_ (by omega) (by omega) (by omega) (by omega))
           · first
               | exact (((Own.made' hi _ m hmx rfl).alloc _).alloc _).drew
               | exact ((Own.made' (hi.alloc _) _ m hmx (alloc_size _ _)).alloc _).drew
               | exact (Own.made' ((hi.alloc _).alloc _) _ m hmx (by rw [alloc_size, alloc_size])).drew
           · first
               | exact (((Own.made' hi _ n hnx rfl).alloc _).alloc _).drew
               | exact ((Own.made' (hi.alloc _) _ n hnx (alloc_size _ _)).alloc _).drew
               | exact (Own.made' ((hi.alloc _).alloc _) _ n hnx (by rw [alloc_size, alloc_size])).drew
           · first
               | exact ((Blk.new' rfl).alloc _).alloc _
               | exact (Blk.new' (alloc_size _ _)).alloc _
               | exact Blk.new' (by rw [alloc_size, alloc_size]))
        | (refine onlyN_mk ⟨s0, s1, s2, by rfl, ?_⟩
           obtain rfl := hs2.out
           obtain rfl := hs1.out
           obtain rfl := hs0.out
           have hi := Inv.start (H1.out.inv.fz)
           refine Lib.hid (RtSt.make H1.out (((hi.alloc _).alloc _).alloc _).drew.bel ?_ ?_ ?_ (by omega) (by omega) (by omega) (by omega))
           · first
               | exact (((Own.made' hi _ m hmx rfl).alloc _).alloc _).drew
               | exact ((Own.made' (hi.alloc _) _ m hmx (alloc_size _ _)).alloc _).drew
               | exact (Own.made' ((hi.alloc _).alloc _) _ m hmx (by rw [alloc_size, alloc_size])).drew
           · first
               | exact (((Own.made' hi _ n hnx rfl).alloc _).alloc _).drew
               | exact ((Own.made' (hi.alloc _) _ n hnx (alloc_size _ _)).alloc _).drew
               | exact (Own.made' ((hi.alloc _).alloc _) _ n hnx (by rw [alloc_size, alloc_size])).drew
           · first
               | exact ((Blk.new' rfl).alloc _).alloc _
               | exact (Blk.new' (alloc_size _ _)).alloc _
               | exact Blk.new' (by rw [alloc_size, alloc_size]))
        | (refine onlyN_mk ⟨s0, s2, s1, by rfl, ?_⟩
           obtain rfl := hs2.out
           obtain rfl := hs1.out
           obtain rfl := hs0.out
           have hi := Inv.start (H1.out.inv.fz)
           refine Lib.hid (RtSt.make H1.out (((hi.alloc _).alloc _).alloc _).drew.bel ?_ ?_ ?_ (by omega) (by omega) (by omega) (by omega))
           · first
               | exact (((Own.made' hi _ m hmx rfl).alloc _).alloc _).drew
               | exact ((Own.made' (hi.alloc _) _ m hmx (alloc_size _ _)).alloc _).drew
               | exact (Own.made' ((hi.alloc _).alloc _) _ m hmx (by rw [alloc_size, alloc_size])).drew
           · first
               | exact (((Own.made' hi _ n hnx rfl).alloc _).alloc _).drew
               | exact ((Own.made' (hi.alloc _) _ n hnx (alloc_size _ _)).alloc _).drew
               | exact (Own.made' ((hi.alloc _).alloc _) _ n hnx (by rw [alloc_size, alloc_size])).drew
           · first
               | exact ((Blk.new' rfl).alloc _).alloc _
               | exact (Blk.new' (alloc_size _ _)).alloc _
               | exact Blk.new' (by rw [alloc_size, alloc_size]))
  case h2 =>
  intro b10 g1 g2 W2 hT0
  clear q0 q1 em en hs0 hs1 hs2
  go_wp2
  go_loopw [54] (fun ix wr => ∃ (k : Nat) (φ3 : Phi), k ≤ nd ∧ ix = .int .i64 k ∧ Hid (∀ i, i < k → rpF n l d i = 0) ∧ Hid (φ2.le φ3) ∧ Hid (RtSt w φ φ3 b6 b10 g1 g2 m n m n (rpK es n m l d k).1 (rpK es n m l d k).2.1 (rpK es n m l d k).2.2 wr)) (fun ix _ => nd - (intOf ix).toNat)
  case atStart => exact ⟨0, φ2, Nat.zero_le _, rfl, Lib.hid (fun i hi => by omega), Lib.hid (Phi.le_refl _), hT0⟩
  case round =>
    clear hT0
    obtain ⟨k, φ3, hk, rfl, hok, L23, hS⟩ := hrel
    by_cases hlt : k < nd
    · have L03 := Lib.hid (L02.out.trans L23.out)
      obtain ⟨b3, o3, rfl, f3⟩ := (sd.mono L03.out).rpr1D hdl hlt
      obtain ⟨ar, cr, af, cf, s5, s6, f3⟩ := f3 k hlt
      obtain ⟨_, d0, d1, d2⟩ := f3 wr hS.out.inv.fz
      obtain ⟨bl, ol, rfl, f4⟩ := (sl.mono L03.out).lists hll hlt
      obtain ⟨a4, c4, s4, f4⟩ := f4 k hlt
      have HL3 : Hid (∀ W, Fz φ3 W → W.cell? ⟨bl, ol + k, none⟩ = some (.slice a4 n c4)) := Lib.hid (fun W h => by have := (f4 W h).2; rw [HDR2.out k hlt] at this; exact this)
      have hxl := Lib.hid (HDR2.out k hlt)
      have HBAD := Lib.hid (rpF.eq_1 n l d k)
      have HNX := Lib.hid (rpK.eq_2 es n m l d k)
      have HCN : Hid ((d.getD k rpr1).2.1.length ≤ n → 0 ≤ (rpK es n m l d k).1 ∧ (rpK es n m l d k).1 ≤ k ∧ CntB (60 * k) (rpK es n m l d k).2.1 ∧ CntB (12 * k) (rpK es n m l d k).2.2) := Lib.hid (fun _ => rpK_cnt h60 h12.2 k (fun i hi => by rw [← (rpF_zero (hok.out i hi)).2.2]; exact apL_len _ _ _))
      have HRL := Lib.hid (rpK_len (es := es) (n := n) (m := m) (l := l) (d := d) k)
      generalize d.getD k rpr1 = y at *
      obtain ⟨rc, fl, dn⟩ := y
      generalize l.getD k [] = x at *
      generalize rpK es n m l d k = ps at *
      obtain ⟨pc, X1, X2⟩ := ps
      dsimp only at s5 s6 d0 d1 d2 HBAD HNX HCN HRL hS
      obtain ⟨nr, hnr⟩ : ∃ j, Hid (rc.length = j) := ⟨_, Lib.hid rfl⟩
      obtain ⟨nf, hnf⟩ : ∃ j, Hid (fl.length = j) := ⟨_, Lib.hid rfl⟩
      rw [hnr.out] at d0
      rw [hnf.out] at d1
      obtain ⟨φ4, l34, i4, k4⟩ := (Inv.start hS.out.inv.fz).frz (.cells #[.slice ar nr cr, .slice af nf cf, .int .i64 dn] 34)
      have HC4 := Lib.hid (fun (φ' : Phi) (h : φ4.le φ') (W : World) (hf : Fz φ' W) => hf.blk (h _ _ k4))
      have L34 := Lib.hid l34
      have hS4 := Lib.hid (hS.out.call i4)
      have S5 := Lib.hid (s5.mono l34)
      have S6 := Lib.hid (s6.mono l34)
      have S4 := Lib.hid (s4.mono l34)
      have HV4 := (hV.mono L23.out).mono l34
      have HL4 := Lib.hid (fun (φ' : Phi) (h : φ4.le φ') (W : World) (hf : Fz φ' W) => HL3.out W (hf.sub (L34.out.trans h)))
      have hnrl := s5.len
      have hnfl := s6.len
      rw [hnr.out] at hnrl
      rw [hnf.out] at hnfl
      have y0 : (wr.alloc (.cells #[.slice ar nr cr, .slice af nf cf, .int .i64 dn] 34)).cell? ⟨wr.heap.size, 0, none⟩ = some (.slice ar nr cr) := box_at 0
      clear f3 f4 l34 i4 k4 hS HL3 s4 s5 s6
      obtain ⟨q, hq⟩ : ∃ q, Hid (recF n rc = q) := ⟨_, Lib.hid rfl⟩
      rw [hq.out] at HBAD
      go_wp2_with fail
      clear d0 d1 d2 y0
      generalize wr.alloc (.cells #[.slice ar nr cr, .slice af nf cf, .int .i64 dn] 34) = wy at *
      generalize wr.heap.size = bd at *
      refine (recordFault_any HV4 wy hS4.out.inv.fz nr ar cr rc S5.out hnr hnrl).mono ?_
      rintro e w' ⟨rfl, rfl⟩
      rw [hq.out]
      by_cases hq0 : q = 0
      case neg =>
        have hqq : (q != 0) = true := by simp [hq0]
        have HQ2 : Hid (rpF n l d k = q) := Lib.hid (by rw [HBAD.out, if_pos hq0])
        have HF : Hid (F = q) := Lib.hid (by rw [← HF2.out, scan_stop hok.out hlt (by rw [HQ2.out]; exact hq0), HQ2.out])
        have HO : Hid (r = (0, [], [])) := Lib.hid (by rw [HO.out, HF.out, if_neg hq0])
        clear hq0
        have z0 : _ = some (Value.int .i64 0) := hS4.out.k6.cell 0
        have z1 : _ = some (Value.slice none 0 0) := hS4.out.k6.cell 1
        have z2 : _ = some (Value.slice none 0 0) := hS4.out.k6.cell 2
        have x0 := hS4.out.k6.frz 0
        have x1 := hS4.out.k6.frz 1
        have x2 := hS4.out.k6.frz 2
        have hIZ := Lib.hid (((hS4.out.inv.setCell hS4.out.l6 hS4.out.f6 (off := 0) (Value.int .i64 0)).setCell hS4.out.l6 hS4.out.f6 (off := 1) (Value.slice none 0 0)).setCell hS4.out.l6 hS4.out.f6 (off := 2) (Value.slice none 0 0))
        have hBZ := Lib.hid (((hS4.out.k6.set 0 (Value.int .i64 0)).set 1 (Value.slice none 0 0)).set 2 (Value.slice none 0 0))
        go_wp2
        have e0 : _ = some (Value.int .i64 0) := hBZ.out.cell 0
        have e1 : _ = some (Value.slice none 0 0) := hBZ.out.cell 1
        have e2 : _ = some (Value.slice none 0 0) := hBZ.out.cell 2
        (try simp only [Exit.inBlock, Exit.then])
        refine bodyPost_ret (v := .tuple #[.agg #[(Value.int .i64 0), (Value.slice none 0 0), (Value.slice none 0 0)], .int .i64 q]) (by simp [results, Tryd.results10, go_sem, e0, e1, e2]) rfl ?_
        obtain rfl := HF.out
        obtain rfl := HO.out
        exact ⟨_, none, 0, 0, none, 0, 0, rfl, hIZ.out, SlV.empty _, SlV.empty _, rfl, rfl⟩
      subst hq0
      obtain rfl : nr = n := by rw [← hnr.out, recF_len hq.out]
      have y2 : wy.cell? ⟨bd, 2, none⟩ = some (.int .i64 dn) := (HC4.out φ4 (Phi.le_refl _) wy hS4.out.inv.fz).cell 2
      obtain ⟨o, ho⟩ : ∃ o, Hid (outB dn (-1) ((nd : Int) - 1) = o) := ⟨_, Lib.hid rfl⟩
      rw [if_neg (by simp), hll.out, ho.out] at HBAD
      go_wp2_with fail
      refine (outside_b _ _ _ _ ho.out).mono ?_
      rintro e w' ⟨rfl, rfl⟩
      cases o with
      | true =>
        have HQ2 : Hid (rpF nr l d k = 1) := Lib.hid (by rw [HBAD.out, if_pos rfl])
        have HF : Hid (F = 1) := Lib.hid (by rw [← HF2.out, scan_stop hok.out hlt (by rw [HQ2.out]; decide), HQ2.out])
        have HO : Hid (r = (0, [], [])) := Lib.hid (by rw [HO.out, HF.out]; rfl)
        clear y2
        have z0 : _ = some (Value.int .i64 0) := hS4.out.k6.cell 0
        have z1 : _ = some (Value.slice none 0 0) := hS4.out.k6.cell 1
        have z2 : _ = some (Value.slice none 0 0) := hS4.out.k6.cell 2
        have x0 := hS4.out.k6.frz 0
        have x1 := hS4.out.k6.frz 1
        have x2 := hS4.out.k6.frz 2
        have hIZ := Lib.hid (((hS4.out.inv.setCell hS4.out.l6 hS4.out.f6 (off := 0) (Value.int .i64 0)).setCell hS4.out.l6 hS4.out.f6 (off := 1) (Value.slice none 0 0)).setCell hS4.out.l6 hS4.out.f6 (off := 2) (Value.slice none 0 0))
        have hBZ := Lib.hid (((hS4.out.k6.set 0 (Value.int .i64 0)).set 1 (Value.slice none 0 0)).set 2 (Value.slice none 0 0))
        go_wp2
        have e0 : _ = some (Value.int .i64 0) := hBZ.out.cell 0
        have e1 : _ = some (Value.slice none 0 0) := hBZ.out.cell 1
        have e2 : _ = some (Value.slice none 0 0) := hBZ.out.cell 2
        (try simp only [Exit.inBlock, Exit.then])
        refine bodyPost_ret (v := .tuple #[.agg #[(Value.int .i64 0), (Value.slice none 0 0), (Value.slice none 0 0)], .int .i64 1]) (by simp [results, Tryd.results10, go_sem, e0, e1, e2]) rfl ?_
        obtain rfl := HF.out
        obtain rfl := HO.out
        exact ⟨_, none, 0, 0, none, 0, 0, rfl, hIZ.out, SlV.empty _, SlV.empty _, rfl, rfl⟩
      | false =>
        rw [if_neg (by simp)] at HBAD
        clear y2
        have hSd : Hid (RtSt w φ φ4 b6 b10 g1 g2 m nr m nr pc X1 X2 wy.drew) := Lib.hid (hS4.out.callB (bdrewN (Below.refl wy.heap.size wy) 1))
        have q0 : wy.cell? ⟨bl, ol + k, none⟩ = some (.slice a4 nr c4) := HL4.out φ4 (Phi.le_refl _) wy hS4.out.inv.fz
        have q1 : wy.cell? ⟨bd, 0, none⟩ = some (.slice ar nr cr) := (HC4.out φ4 (Phi.le_refl _) wy hS4.out.inv.fz).cell 0
        obtain ⟨al, hal⟩ : ∃ al, Hid (apL x rc nr = al) := ⟨_, Lib.hid rfl⟩
        obtain ⟨nal, hnal⟩ : ∃ j, Hid (al.length = j) := ⟨_, Lib.hid rfl⟩
        rw [hal.out] at HBAD
        have hnal12 : nal ≤ nr := by rw [← hnal.out, ← hal.out]; exact apL_len _ _ _
        go_wp2
        go_region_held3 (fun w' => w'.cell? ⟨bl, ol + k, none⟩ = some (.slice a4 nr c4) ∧ w'.cell? ⟨bd, 0, none⟩ = some (.slice ar nr cr)) (first | exact ⟨q0, q1⟩ | exact ⟨by assumption, by assumption⟩) (first
          | ((with_reducible refine ((apart_any HV4 wy.drew hSd.out.inv.fz a4 c4 x S4.out hxl ar cr rc S5.out hnr).mono (fun e w h => ApPost.toN (k := nal) (by rw [hal.out]; exact hnal.out) rfl h)).mono ?_); rintro e w9 ⟨a9, c9, rfl, hi9, ho9⟩; obtain ⟨φ5, l5, i5, s9, _⟩ := ho9.release hi9; have hS9 := Lib.hid (hSd.out.call i5); have L45 := Lib.hid l5; have S9 := Lib.hid s9; have z0 := HL4.out φ5 l5 w9 i5.fz; have z1 : w9.cell? ⟨bd, 0, none⟩ = some (.slice ar nr cr) := (HC4.out φ5 l5 w9 i5.fz).cell 0; clear hi9 ho9 l5 i5 s9))
        have hS9' := hS9
        clear hSd hS4 q0 q1
        obtain ⟨b, hb⟩ : ∃ b, Hid (decide (al = fl) = b) := ⟨_, Lib.hid rfl⟩
        have hnalm : nal ≤ 9223372036854775807 := by omega
        have x1 : w9.cell? ⟨bd, 1, none⟩ = some (.slice af nf cf) := (HC4.out φ5 L45.out w9 hS9.out.inv.fz).cell 1
        clear z0 z1
        go_wp2_with fail
        refine (Equal_b nal a9 c9 al nf af cf fl w9 φ5 hS9.out.inv.fz (by rw [← hal.out]; exact S9.out) hnal hnalm (S6.out.mono L45.out) hnf hb).mono ?_
        rintro e w10 ⟨rfl, hb10⟩
        have hS10 := Lib.hid (hS9.out.callB hb10)
        clear hb10 hS9 hS9' x1
        cases b with
        | false =>
          have HQ2 : Hid (rpF nr l d k = 3) := Lib.hid (by rw [HBAD.out, if_neg (by simpa using hb.out)])
          have HF : Hid (F = 3) := Lib.hid (by rw [← HF2.out, scan_stop hok.out hlt (by rw [HQ2.out]; decide), HQ2.out])
          have HO : Hid (r = (0, [], [])) := Lib.hid (by rw [HO.out, HF.out]; rfl)
          have z0 : _ = some (Value.int .i64 0) := hS10.out.k6.cell 0
          have z1 : _ = some (Value.slice none 0 0) := hS10.out.k6.cell 1
          have z2 : _ = some (Value.slice none 0 0) := hS10.out.k6.cell 2
          have x0 := hS10.out.k6.frz 0
          have x1 := hS10.out.k6.frz 1
          have x2 := hS10.out.k6.frz 2
          have hIZ := Lib.hid (((hS10.out.inv.setCell hS10.out.l6 hS10.out.f6 (off := 0) (Value.int .i64 0)).setCell hS10.out.l6 hS10.out.f6 (off := 1) (Value.slice none 0 0)).setCell hS10.out.l6 hS10.out.f6 (off := 2) (Value.slice none 0 0))
          have hBZ := Lib.hid (((hS10.out.k6.set 0 (Value.int .i64 0)).set 1 (Value.slice none 0 0)).set 2 (Value.slice none 0 0))
          go_wp2
          have e0 : _ = some (Value.int .i64 0) := hBZ.out.cell 0
          have e1 : _ = some (Value.slice none 0 0) := hBZ.out.cell 1
          have e2 : _ = some (Value.slice none 0 0) := hBZ.out.cell 2
          (try simp only [Exit.inBlock, Exit.then])
          refine bodyPost_ret (v := .tuple #[.agg #[(Value.int .i64 0), (Value.slice none 0 0), (Value.slice none 0 0)], .int .i64 3]) (by simp [results, Tryd.results10, go_sem, e0, e1, e2]) rfl ?_
          obtain rfl := HF.out
          obtain rfl := HO.out
          exact ⟨_, none, 0, 0, none, 0, 0, rfl, hIZ.out, SlV.empty _, SlV.empty _, rfl, rfl⟩
        | true =>
          have heq : al = fl := of_decide_eq_true hb.out
          have HQ2 : Hid (rpF nr l d k = 0) := Lib.hid (by rw [HBAD.out, if_pos heq])
          have hok2 := next_ok hok HQ2.out
          have HFR : Hid (∀ j, j < nf → 0 ≤ fl.getD j 0 ∧ fl.getD j 0 < (nr : Int)) := Lib.hid (fun j hj => by
            have hm : fl.getD j 0 ∈ apL x rc nr := by rw [hal.out, heq, getD_elem0 _ _ _ (by rw [hnf.out]; exact hj)]; exact List.getElem_mem _
            exact mem_apL2 hm)
          have hnf12 : nf ≤ nr := by rw [← hnf.out, ← heq, hnal.out]; exact hnal12
          have HC2 := Lib.hid (HCN.out (by rw [hnf.out]; exact hnf12))
          have hpc := HC2.out.2.1
          have hpc0 := HC2.out.1
          clear heq HBAD hb hq ho
          have x1 : w10.cell? ⟨bd, 1, none⟩ = some (.slice af nf cf) := (HC4.out φ5 L45.out w10 hS10.out.inv.fz).cell 1
          by_cases hz : nf = 0
          · have hg0 : ¬ (0 : Int) < nf := by omega
            have HPC : Hid (pc + (if fl.length = 0 then 0 else 1) = pc) := Lib.hid (by rw [hnf.out, if_pos hz]; omega)
            clear hz
            have hS11 := hS10
            go_wp2
            go_loopw [102] (fun jx wj => ∃ j : Nat, j ≤ nf ∧ jx = .int .i64 j ∧ Hid (RtSt w φ φ5 b6 b10 g1 g2 m nr m nr pc X1 (bumps X2 (fl.take j)) wj)) (fun jx _ => nf - (intOf jx).toNat)
            case atStart => exact ⟨0, Nat.zero_le _, rfl, hS11⟩
            case round =>
              clear hS11 hS10
              obtain ⟨j, hj, rfl, hT⟩ := hrel
              rename World => wj
              by_cases hjl : j < nf
              · exfalso; omega
              · obtain rfl : j = nf := by omega
                rw [List.take_of_length_le (by rw [hnf.out]; exact Nat.le_refl _)] at hT
                have HV5 := HV4.mono L45.out
                have e4 : wj.cell? ⟨bl, ol + k, none⟩ = some (.slice a4 nr c4) := HL4.out φ5 L45.out wj hT.out.inv.fz
                obtain ⟨el, hel⟩ : ∃ el, Hid (failL es x nr m = el) := ⟨_, Lib.hid rfl⟩
                obtain ⟨ne, hne⟩ : ∃ ne, Hid (el.length = ne) := ⟨_, Lib.hid rfl⟩
                have HER : Hid (∀ i, i < ne → 0 ≤ el.getD i 0 ∧ el.getD i 0 < (m : Int)) := Lib.hid (fun i hi => by
                  have hm : el.getD i 0 ∈ failL es x nr m := by rw [hel.out, getD_elem0 _ _ _ (by rw [hne.out]; exact hi)]; exact List.getElem_mem _
                  exact failL_rng _ hm)
                have hne60 : ne ≤ 60 := by
                  rw [← hne.out, ← hel.out]
                  unfold failL
                  rw [List.length_map]
                  exact Nat.le_trans (Nat.le_trans (List.length_filter_le _ _) (by simp)) h60
                rw [hel.out] at HNX
                go_wp2_with fail
                refine ((fails_any HV5 wj hT.out.inv.fz a4 c4 x (S4.out.mono L45.out) hxl).mono (fun e w h => OwnPost.toN (k := ne) (by rw [hel.out]; exact hne.out) h)).mono ?_
                rintro e w12 ⟨a12, c12, rfl, hi12, ho12⟩
                obtain ⟨φ6, l6, i6, s12, _⟩ := ho12.release hi12
                have hT12 := Lib.hid (hT.out.call i6)
                have S12 : Hid (SlV φ6 a12 c12 el) := Lib.hid (by rw [← hel.out]; exact s12)
                have L56 := Lib.hid l6
                clear hi12 ho12 l6 i6 s12 hT e4
                go_wp2
                go_loopw [121] (fun jx wj => ∃ j : Nat, j ≤ ne ∧ jx = .int .i64 j ∧ Hid (RtSt w φ φ6 b6 b10 g1 g2 m nr m nr pc (bumps X1 (el.take j)) (bumps X2 fl) wj)) (fun jx _ => ne - (intOf jx).toNat)
                case atStart => exact ⟨0, Nat.zero_le _, rfl, hT12⟩
                case round =>
                  clear hT12
                  obtain ⟨i, hi, rfl, hU⟩ := hrel
                  rename World => wi
                  by_cases hil : i < ne
                  · obtain ⟨bf, of, rfl, ff⟩ := S12.out.intsD hne hil
                    have e1 := (ff i hil wi hU.out.inv.fz).2
                    have hr := HER.out i hil
                    have hbt := Lib.hid (bumps_take (l := X1) (by rw [hne.out]; exact hil))
                    obtain ⟨v, hv⟩ : ∃ v : Nat, el.getD i 0 = (v : Int) := ⟨(el.getD i 0).toNat, by omega⟩
                    rw [hv] at e1 hr hbt
                    have hvn : v < m := by omega
                    obtain ⟨_, hg, _, fo⟩ := hU.out.o1.intsD (n := m) (Lib.hid (by rw [bumps_len]; exact HRL.out.1)) hvn
                    cases hg
                    obtain ⟨t1, t2, t3⟩ := fo v hvn
                    obtain ⟨u, hu⟩ : ∃ u, Hid ((bumps X1 (el.take i)).getD v 0 = u) := ⟨_, Lib.hid rfl⟩
                    have hub : 0 ≤ u ∧ u ≤ 1000000 := by
                      have h := (HC2.out.2.2.1.bumps (el.take i)) v
                      rw [hu.out, List.length_take, Nat.min_eq_left (by rw [hne.out]; exact hi)] at h
                      omega
                    rw [hu.out] at t1
                    have hP := Lib.hid (hU.out.put1 (t3 (u + 1) w φ hU.out.inv).1 (t3 (u + 1) w φ hU.out.inv).2)
                    have hbt2 : Hid ((bumps X1 (el.take i)).set v (u + 1) = bumps X1 (el.take (i + 1))) := Lib.hid (by rw [hbt.out, bump, Int.toNat_natCast, hu.out])
                    rw [hbt2.out] at hP
                    have e2 : wi.cell? ⟨b10, 1, none⟩ = some (.slice (some ⟨g1, 0, none⟩) m m) := hU.out.k10.cell 1
                    have hub1 := hub.1
                    have hub2 := hub.2
                    clear ff fo t3 hr hv hub
                    go_wp2
                    go_roundw
                    case rel => exact ⟨i + 1, by omega, by go_num, hP⟩
                    case measure => (simp [intOf] <;> omega)
                  · obtain rfl : i = ne := by omega
                    rw [List.take_of_length_le (by rw [hne.out]; exact Nat.le_refl _)] at hU
                    go_wp2
                    go_roundw
                    case rel => exact ⟨k + 1, φ6, by omega, by go_num, hok2, Lib.hid (((L23.out.trans L34.out).trans L45.out).trans L56.out), by rw [HNX.out]; dsimp only; rw [HPC.out]; exact hU⟩
                    case measure => (simp [intOf] <;> omega)
          · have hg0 : (0 : Int) < nf := by omega
            have HPC : Hid (pc + (if fl.length = 0 then 0 else 1) = pc + 1) := Lib.hid (by rw [hnf.out, if_neg hz])
            clear hz
            have y0 : w10.cell? ⟨b10, 0, none⟩ = some (.int .i64 pc) := hS10.out.k10.cell 0
            have y1 := hS10.out.k10.frz 0
            have hS11 := Lib.hid (hS10.out.putx (pc + 1))
            have x1' : (w10.setCell ⟨b10, 0, none⟩ (.int .i64 (pc + 1))).cell? ⟨bd, 1, none⟩ = some (.slice af nf cf) := (HC4.out φ5 L45.out _ hS11.out.inv.fz).cell 1
            go_wp2
            go_loopw [102] (fun jx wj => ∃ j : Nat, j ≤ nf ∧ jx = .int .i64 j ∧ Hid (RtSt w φ φ5 b6 b10 g1 g2 m nr m nr (pc + 1) X1 (bumps X2 (fl.take j)) wj)) (fun jx _ => nf - (intOf jx).toNat)
            case atStart => exact ⟨0, Nat.zero_le _, rfl, hS11⟩
            case round =>
              clear hS11 hS10
              obtain ⟨j, hj, rfl, hT⟩ := hrel
              rename World => wj
              by_cases hjl : j < nf
              · obtain ⟨bf, of, rfl, ff⟩ := (S6.out.mono L45.out).intsD hnf hjl
                have e1 := (ff j hjl wj hT.out.inv.fz).2
                have hr := HFR.out j hjl
                have hbt := Lib.hid (bumps_take (l := X2) (by rw [hnf.out]; exact hjl))
                obtain ⟨v, hv⟩ : ∃ v : Nat, fl.getD j 0 = (v : Int) := ⟨(fl.getD j 0).toNat, by omega⟩
                rw [hv] at e1 hr hbt
                have hvn : v < nr := by omega
                obtain ⟨_, hg, _, fo⟩ := hT.out.o2.intsD (n := nr) (Lib.hid (by rw [bumps_len]; exact HRL.out.2)) hvn
                cases hg
                obtain ⟨t1, t2, t3⟩ := fo v hvn
                obtain ⟨u, hu⟩ : ∃ u, Hid ((bumps X2 (fl.take j)).getD v 0 = u) := ⟨_, Lib.hid rfl⟩
                have hub : 0 ≤ u ∧ u ≤ 100000 := by
                  have h := (HC2.out.2.2.2.bumps (fl.take j)) v
                  rw [hu.out, List.length_take, Nat.min_eq_left (by rw [hnf.out]; exact hj)] at h
                  omega
                rw [hu.out] at t1
                have hP := Lib.hid (hT.out.put2 (t3 (u + 1) w φ hT.out.inv).1 (t3 (u + 1) w φ hT.out.inv).2)
                have hbt2 : Hid ((bumps X2 (fl.take j)).set v (u + 1) = bumps X2 (fl.take (j + 1))) := Lib.hid (by rw [hbt.out, bump, Int.toNat_natCast, hu.out])
                rw [hbt2.out] at hP
                have e2 : wj.cell? ⟨b10, 2, none⟩ = some (.slice (some ⟨g2, 0, none⟩) nr nr) := hT.out.k10.cell 2
                have hub1 := hub.1
                have hub2 := hub.2
                clear ff fo t3 hr hv hub
                go_wp2
                go_roundw
                case rel => exact ⟨j + 1, by omega, by go_num, hP⟩
                case measure => (simp [intOf] <;> omega)
              · obtain rfl : j = nf := by omega
                rw [List.take_of_length_le (by rw [hnf.out]; exact Nat.le_refl _)] at hT
                have HV5 := HV4.mono L45.out
                have e4 : wj.cell? ⟨bl, ol + k, none⟩ = some (.slice a4 nr c4) := HL4.out φ5 L45.out wj hT.out.inv.fz
                obtain ⟨el, hel⟩ : ∃ el, Hid (failL es x nr m = el) := ⟨_, Lib.hid rfl⟩
                obtain ⟨ne, hne⟩ : ∃ ne, Hid (el.length = ne) := ⟨_, Lib.hid rfl⟩
                have HER : Hid (∀ i, i < ne → 0 ≤ el.getD i 0 ∧ el.getD i 0 < (m : Int)) := Lib.hid (fun i hi => by
                  have hm : el.getD i 0 ∈ failL es x nr m := by rw [hel.out, getD_elem0 _ _ _ (by rw [hne.out]; exact hi)]; exact List.getElem_mem _
                  exact failL_rng _ hm)
                have hne60 : ne ≤ 60 := by
                  rw [← hne.out, ← hel.out]
                  unfold failL
                  rw [List.length_map]
                  exact Nat.le_trans (Nat.le_trans (List.length_filter_le _ _) (by simp)) h60
                rw [hel.out] at HNX
                go_wp2_with fail
                refine ((fails_any HV5 wj hT.out.inv.fz a4 c4 x (S4.out.mono L45.out) hxl).mono (fun e w h => OwnPost.toN (k := ne) (by rw [hel.out]; exact hne.out) h)).mono ?_
                rintro e w12 ⟨a12, c12, rfl, hi12, ho12⟩
                obtain ⟨φ6, l6, i6, s12, _⟩ := ho12.release hi12
                have hT12 := Lib.hid (hT.out.call i6)
                have S12 : Hid (SlV φ6 a12 c12 el) := Lib.hid (by rw [← hel.out]; exact s12)
                have L56 := Lib.hid l6
                clear hi12 ho12 l6 i6 s12 hT e4
                go_wp2
                go_loopw [121] (fun jx wj => ∃ j : Nat, j ≤ ne ∧ jx = .int .i64 j ∧ Hid (RtSt w φ φ6 b6 b10 g1 g2 m nr m nr (pc + 1) (bumps X1 (el.take j)) (bumps X2 fl) wj)) (fun jx _ => ne - (intOf jx).toNat)
                case atStart => exact ⟨0, Nat.zero_le _, rfl, hT12⟩
                case round =>
                  clear hT12
                  obtain ⟨i, hi, rfl, hU⟩ := hrel
                  rename World => wi
                  by_cases hil : i < ne
                  · obtain ⟨bf, of, rfl, ff⟩ := S12.out.intsD hne hil
                    have e1 := (ff i hil wi hU.out.inv.fz).2
                    have hr := HER.out i hil
                    have hbt := Lib.hid (bumps_take (l := X1) (by rw [hne.out]; exact hil))
                    obtain ⟨v, hv⟩ : ∃ v : Nat, el.getD i 0 = (v : Int) := ⟨(el.getD i 0).toNat, by omega⟩
                    rw [hv] at e1 hr hbt
                    have hvn : v < m := by omega
                    obtain ⟨_, hg, _, fo⟩ := hU.out.o1.intsD (n := m) (Lib.hid (by rw [bumps_len]; exact HRL.out.1)) hvn
                    cases hg
                    obtain ⟨t1, t2, t3⟩ := fo v hvn
                    obtain ⟨u, hu⟩ : ∃ u, Hid ((bumps X1 (el.take i)).getD v 0 = u) := ⟨_, Lib.hid rfl⟩
                    have hub : 0 ≤ u ∧ u ≤ 1000000 := by
                      have h := (HC2.out.2.2.1.bumps (el.take i)) v
                      rw [hu.out, List.length_take, Nat.min_eq_left (by rw [hne.out]; exact hi)] at h
                      omega
                    rw [hu.out] at t1
                    have hP := Lib.hid (hU.out.put1 (t3 (u + 1) w φ hU.out.inv).1 (t3 (u + 1) w φ hU.out.inv).2)
                    have hbt2 : Hid ((bumps X1 (el.take i)).set v (u + 1) = bumps X1 (el.take (i + 1))) := Lib.hid (by rw [hbt.out, bump, Int.toNat_natCast, hu.out])
                    rw [hbt2.out] at hP
                    have e2 : wi.cell? ⟨b10, 1, none⟩ = some (.slice (some ⟨g1, 0, none⟩) m m) := hU.out.k10.cell 1
                    have hub1 := hub.1
                    have hub2 := hub.2
                    clear ff fo t3 hr hv hub
                    go_wp2
                    go_roundw
                    case rel => exact ⟨i + 1, by omega, by go_num, hP⟩
                    case measure => (simp [intOf] <;> omega)
                  · obtain rfl : i = ne := by omega
                    rw [List.take_of_length_le (by rw [hne.out]; exact Nat.le_refl _)] at hU
                    go_wp2
                    go_roundw
                    case rel => exact ⟨k + 1, φ6, by omega, by go_num, hok2, Lib.hid (((L23.out.trans L34.out).trans L45.out).trans L56.out), by rw [HNX.out]; dsimp only; rw [HPC.out]; exact hU⟩
                    case measure => (simp [intOf] <;> omega)
    · obtain rfl : k = nd := by omega
      have HF : Hid (F = 0) := Lib.hid (by rw [← HF2.out, scan_zero _ _ hok.out])
      have HO : Hid (r = rpK es n m l d k) := Lib.hid (by rw [HO.out, HF.out, if_pos rfl])
      have HLL := Lib.hid (rpK_len (es := es) (n := n) (m := m) (l := l) (d := d) k)
      generalize rpK es n m l d k = ps at *
      obtain ⟨pc, X1, X2⟩ := ps
      dsimp only at hS HLL
      have y0 : wr.cell? ⟨b10, 0, none⟩ = some (.int .i64 pc) := hS.out.k10.cell 0
      have y1 : wr.cell? ⟨b10, 1, none⟩ = some (.slice (some ⟨g1, 0, none⟩) m m) := hS.out.k10.cell 1
      have y2 : wr.cell? ⟨b10, 2, none⟩ = some (.slice (some ⟨g2, 0, none⟩) n n) := hS.out.k10.cell 2
      obtain ⟨φ6, i6, r1, r2, n6⟩ := hS.out.release
      have R1 := Lib.hid r1
      have R2 := Lib.hid r2
      have HI6 := Lib.hid i6
      have N6 := Lib.hid n6
      clear i6 r1 r2 n6
      have z0 : _ = some (Value.int .i64 0) := hS.out.k6.cell 0
      have z1 : _ = some (Value.slice none 0 0) := hS.out.k6.cell 1
      have z2 : _ = some (Value.slice none 0 0) := hS.out.k6.cell 2
      have x0 := hS.out.k6.frz 0
      have x1 := hS.out.k6.frz 1
      have x2 := hS.out.k6.frz 2
      have hIZ := Lib.hid (((HI6.out.setCell hS.out.l6 N6.out (off := 0) (Value.int .i64 pc)).setCell hS.out.l6 N6.out (off := 1) (Value.slice (some ⟨g1, 0, none⟩) m m)).setCell hS.out.l6 N6.out (off := 2) (Value.slice (some ⟨g2, 0, none⟩) n n))
      have hBZ := Lib.hid (((hS.out.k6.set 0 (Value.int .i64 pc)).set 1 (Value.slice (some ⟨g1, 0, none⟩) m m)).set 2 (Value.slice (some ⟨g2, 0, none⟩) n n))
      go_wp2
      have e0 : _ = some (Value.int .i64 pc) := hBZ.out.cell 0
      have e1 : _ = some (Value.slice (some ⟨g1, 0, none⟩) m m) := hBZ.out.cell 1
      have e2 : _ = some (Value.slice (some ⟨g2, 0, none⟩) n n) := hBZ.out.cell 2
      (try simp only [Exit.inBlock, Exit.then])
      refine bodyPost_ret (v := .tuple #[.agg #[(Value.int .i64 pc), (Value.slice (some ⟨g1, 0, none⟩) m m), (Value.slice (some ⟨g2, 0, none⟩) n n)], .int .i64 0]) (by simp [results, Tryd.results10, go_sem, e0, e1, e2]) rfl ?_
      obtain rfl := HF.out
      obtain rfl := HO.out
      exact ⟨_, _, m, _, _, n, _, rfl, hIZ.out, R1.out, R2.out, HLL.out.1, HLL.out.2⟩
end Go.Proofs.YtkfmadeeobalaaaDoor
