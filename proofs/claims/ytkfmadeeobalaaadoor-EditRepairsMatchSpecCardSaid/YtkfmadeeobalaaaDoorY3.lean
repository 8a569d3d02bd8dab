/- The walks of the reference's changed and Report. Conditions: the library's table of blanks reads as it was laid. -/
import Derived.Test.YtkfmadeeobalaaaDoorY2
import Derived.Test.YtkfmadeeobalaaaDoorI5
namespace Go.Proofs.YtkfmadeeobalaaaDoor
open Go.RowKit
set_option linter.unusedVariables false
set_option maxHeartbeats 1000000 in
theorem Rchanged_any
    (n : Nat) (hn12 : n ≤ 12) {φ : Phi} (w : World) (hφ : Fz φ w) (a1 : Option Addr) (c1 : Nat) (xs : List Int) (s1 : SlV φ a1 c1 xs) (hn1 : Hid (xs.length = n)) (a2 : Option Addr) (c2 : Nat) (ys : List Int) (s2 : SlV φ a2 c2 ys) (hn2 : Hid (ys.length = n)) :
    Calls Tryd.prog 40 #[.slice a1 n c1, .slice a2 n c2] w (OwnPost (apL xs ys n) φ w) := by
  have hSt : Hid (Inv w.heap.size w φ φ w ∧ Own w.heap.size φ w 3 none 0 (apL xs ys 0)) := Lib.hid ⟨Inv.start hφ, Own.nil _ _ _ _⟩
  go_enter Tryd.func40, Tryd.ntmps40
  go_wp2
  go_loopw [5, 9] (fun sl i wr => ∃ (k : Nat) (ao : Option Addr) (co : Nat), k ≤ n ∧ sl = .slice ao (apL xs ys k).length co ∧ i = .int .i64 k ∧ Hid (Inv w.heap.size w φ φ wr ∧ Own w.heap.size φ wr 3 ao co (apL xs ys k))) (fun _ i _ => n - (intOf i).toNat)
  case atStart => exact ⟨0, none, 0, Nat.zero_le _, rfl, rfl, hSt⟩
  case round =>
    clear hSt
    obtain ⟨k, ao, co, hk, rfl, rfl, hS⟩ := hrel
    by_cases hlt : k < n
    · obtain ⟨b1, o1, rfl, f1⟩ := s1.intsD hn1 hlt
      have d1 := (f1 k hlt wr hS.out.1.fz).2
      obtain ⟨b2, o2, rfl, f2⟩ := s2.intsD hn2 hlt
      have d2 := (f2 k hlt wr hS.out.1.fz).2
      have hl := apL_len xs ys k
      have HT := Lib.hid (fun h : xs.getD k 0 ≠ ys.getD k 0 => apL_t h)
      have HF := Lib.hid (fun h : xs.getD k 0 = ys.getD k 0 => apL_f h)
      clear f1 f2
      generalize xs.getD k 0 = x at *
      generalize ys.getD k 0 = y at *
      by_cases he : x = y
      · have hne : (x != y) = false := by simp [he]
        have H2 := Lib.hid (HF.out he)
        clear he
        go_wp2
        go_quiet (fail)
        go_wp2
        go_roundw
        case rel => exact ⟨k + 1, ao, co, by omega, by rw [H2.out], by go_num, by rw [H2.out]; exact Lib.hid ⟨hS.out.1.drewN _, hS.out.2.drewN _⟩⟩
        case measure => (simp [intOf] <;> omega)
      · have hne : (x != y) = true := by simp [he]
        have H2 := Lib.hid (HT.out he)
        clear he
        have hlk := Lib.hid hl
        have hin := Lib.hid (hS.out.1)
        have hon := Lib.hid (hS.out.2)
        go_wp2
        go_quiet (fail)
        go_wp2_with (at_builtin; refine wpList_app1 (α := Int) rfl _ _ 32 rfl slI (hin.out.drewN _) ao co _ (hon.out.drewN _) _ _ (k : Int) rfl rfl 1 rfl (by omega) ?_; intro a5 c5 w5 hi5 ho5 hg5)
        go_roundw
        case rel => exact ⟨k + 1, a5, c5, by omega, by rw [H2.out]; simp, by go_num, by rw [H2.out]; exact Lib.hid ⟨hi5, ho5⟩⟩
        case measure => (simp [intOf] <;> omega)
    · obtain rfl : k = n := by omega
      go_wp2
      go_ret
      exact ⟨ao, co, rfl, hS.out.1, hS.out.2⟩
set_option maxRecDepth 100000 in
set_option maxHeartbeats 4000000 in
theorem RReport_any
  (n : Nat) (a : Option Addr) (cap : Nat) (fs : List Fld) (m : Nat) (ae : Option Addr) (ce : Nat) (es : List Edt) (w : World) (φ : Phi) (hφ : Fz φ w) (ht : TabP φ) (s : SlV φ a cap fs) (hn : Hid (fs.length = n)) (hm : n ≤ 9223372036854775807) (hg : Hid (∀ x ∈ fs, FldG x)) (se : SlV φ ae ce es) (hne : Hid (es.length = m)) (hme : m ≤ 9223372036854775807) (hge : Hid (∀ x ∈ es, EdtG x))
      (nl : Nat) (a2 : Option Addr) (c2 : Nat) (l : List (List Int)) (sl : SlV φ a2 c2 l) (hll : Hid (l.length = nl)) (hml : nl ≤ 9223372036854775807)
      (nd : Nat) (a3 : Option Addr) (c3 : Nat) (d : List Rpr) (sd : SlV φ a3 c3 d) (hdl : Hid (d.length = nd)) (hmd : nd ≤ 9223372036854775807)
    {F : Int} (hF : Hid (repoF fs es l d = F)) {r : RpS} (ho : Hid (repoR fs es l d F = r)) :
    Calls Tryd.prog 11 #[.agg #[.slice a n cap, .slice ae m ce], .slice a2 nl c2, .slice a3 nd c3] w (RepoPost r F φ w) := by
  obtain ⟨φ1, le1, i1, k1⟩ := (Inv.start hφ).frz (.cells #[.slice a n cap, .slice ae m ce] 25)
  have hRS := Lib.hid (ResSt.start i1 #[.int .i64 0, .slice none 0 0, .slice none 0 0] 38)
  rw [alloc_size] at hRS
  have K1 := Lib.hid k1
  have LE1 := Lib.hid le1
  have HBX := Lib.hid (fun (φ' : Phi) (h : φ1.le φ') (w' : World) (hf : Fz φ' w') => (hf.blk (h _ _ k1)))
  have p0 : ((w.alloc (.cells #[.slice a n cap, .slice ae m ce] 25)).alloc (.cells #[.int .i64 0, .slice none 0 0, .slice none 0 0] 38)).cell? ⟨w.heap.size, 0, none⟩ = some (.slice a n cap) := (hRS.out.inv.fz.blk K1.out).cell 0
  have p1 : ((w.alloc (.cells #[.slice a n cap, .slice ae m ce] 25)).alloc (.cells #[.int .i64 0, .slice none 0 0, .slice none 0 0] 38)).cell? ⟨w.heap.size, 1, none⟩ = some (.slice ae m ce) := (hRS.out.inv.fz.blk K1.out).cell 1
  have hTT := Lib.hid (ht.mono le1)
  obtain ⟨P, hP⟩ : ∃ P, Hid (planF fs es = P) := ⟨_, Lib.hid rfl⟩
  have C0 := Lib.hid (RCheckPlan_any n a cap fs m ae ce es ((w.alloc (.cells #[.slice a n cap, .slice ae m ce] 25)).alloc (.cells #[.int .i64 0, .slice none 0 0, .slice none 0 0] 38)) φ1 hRS.out.inv.fz (ht.mono le1) (s.mono le1) hn hm hg (se.mono le1) hne hme hge hP)
  clear ht
  clear i1 k1 le1
  go_enter Tryd.func11, Tryd.ntmps11
  go_wp2_with fail
  clear p0 p1
  generalize hbp : w.heap.size = bp at *
  replace hbp := Lib.hid hbp
  refine C0.out.mono ?_
  rintro e w1 ⟨rfl, hb1⟩
  have H1 := Lib.hid (hRS.out.callB hb1)
  clear hb1 hRS C0
  generalize bp + 1 = b6 at *
  by_cases hp : P = 0
  case neg =>
    have hpp : (P != 0) = true := by simp [hp]
    have HF : Hid (F = P) := Lib.hid (by rw [← hF.out, repoF, hP.out, if_pos hp])
    have HO : Hid (r = (0, [], [])) := Lib.hid (by rw [← ho.out, repoR, HF.out, if_neg hp])
    clear hp
    have z0 : _ = some (Value.int .i64 0) := H1.out.k.cell 0
    have z1 : _ = some (Value.slice none 0 0) := H1.out.k.cell 1
    have z2 : _ = some (Value.slice none 0 0) := H1.out.k.cell 2
    have x0 := H1.out.k.frz 0
    have x1 := H1.out.k.frz 1
    have x2 := H1.out.k.frz 2
    have hIZ := Lib.hid (((H1.out.inv.setCell H1.out.l H1.out.f (off := 0) (Value.int .i64 0)).setCell H1.out.l H1.out.f (off := 1) (Value.slice none 0 0)).setCell H1.out.l H1.out.f (off := 2) (Value.slice none 0 0))
    have hBZ := Lib.hid (((H1.out.k.set 0 (Value.int .i64 0)).set 1 (Value.slice none 0 0)).set 2 (Value.slice none 0 0))
    go_wp2
    have e0 : _ = some (Value.int .i64 0) := hBZ.out.cell 0
    have e1 : _ = some (Value.slice none 0 0) := hBZ.out.cell 1
    have e2 : _ = some (Value.slice none 0 0) := hBZ.out.cell 2
    (try simp only [Exit.inBlock, Exit.then])
    refine bodyPost_ret (v := .tuple #[.agg #[(Value.int .i64 0), (Value.slice none 0 0), (Value.slice none 0 0)], .int .i64 P]) (by simp [results, Tryd.results11, go_sem, e0, e1, e2]) rfl ?_
    obtain rfl := HF.out
    obtain rfl := HO.out
    exact ⟨_, none, 0, 0, none, 0, 0, rfl, hIZ.out, SlV.empty _, SlV.empty _, rfl, rfl⟩
  subst hp
  obtain ⟨lf, hlf⟩ : ∃ k, Hid (listF fs.length l = k) := ⟨_, Lib.hid rfl⟩
  have hF2 := hF.out
  rw [repoF, if_neg (by rw [hP.out]; simp), hlf.out, hdl.out, hll.out] at hF2
  have HF0 := Lib.hid hF2
  have hlf' : Hid (listF n l = lf) := Lib.hid (by rw [← hn.out]; exact hlf.out)
  have C1 := Lib.hid (RcheckRecords_any n a cap fs m ae ce es w1 φ1 H1.out.inv.fz (s.mono LE1.out) (se.mono LE1.out) hn nl a2 c2 l (sl.mono LE1.out) hll hlf')
  clear hF hF2
  have p0 : w1.cell? ⟨bp, 0, none⟩ = some (.slice a n cap) := (HBX.out φ1 (Phi.le_refl _) w1 H1.out.inv.fz).cell 0
  have p1 : w1.cell? ⟨bp, 1, none⟩ = some (.slice ae m ce) := (HBX.out φ1 (Phi.le_refl _) w1 H1.out.inv.fz).cell 1
  by_cases hz : lf = 0
  case neg =>
    have hlb : (lf != 0) = true := by simp [hz]
    have HF : Hid (F = lf) := Lib.hid (by rw [← HF0.out, if_pos hz])
    have HO : Hid (r = (0, [], [])) := Lib.hid (by rw [← ho.out, repoR, HF.out, if_neg hz])
    clear hz
    go_wp2_with fail
    refine C1.out.mono ?_
    rintro e w2 ⟨rfl, hb2⟩
    have H2 := Lib.hid (H1.out.callB hb2)
    clear hb2 p0 p1
    have z0 : _ = some (Value.int .i64 0) := H2.out.k.cell 0
    have z1 : _ = some (Value.slice none 0 0) := H2.out.k.cell 1
    have z2 : _ = some (Value.slice none 0 0) := H2.out.k.cell 2
    have x0 := H2.out.k.frz 0
    have x1 := H2.out.k.frz 1
    have x2 := H2.out.k.frz 2
    have hIZ := Lib.hid (((H2.out.inv.setCell H2.out.l H2.out.f (off := 0) (Value.int .i64 0)).setCell H2.out.l H2.out.f (off := 1) (Value.slice none 0 0)).setCell H2.out.l H2.out.f (off := 2) (Value.slice none 0 0))
    have hBZ := Lib.hid (((H2.out.k.set 0 (Value.int .i64 0)).set 1 (Value.slice none 0 0)).set 2 (Value.slice none 0 0))
    go_wp2
    have e0 : _ = some (Value.int .i64 0) := hBZ.out.cell 0
    have e1 : _ = some (Value.slice none 0 0) := hBZ.out.cell 1
    have e2 : _ = some (Value.slice none 0 0) := hBZ.out.cell 2
    (try simp only [Exit.inBlock, Exit.then])
    refine bodyPost_ret (v := .tuple #[.agg #[(Value.int .i64 0), (Value.slice none 0 0), (Value.slice none 0 0)], .int .i64 lf]) (by simp [results, Tryd.results11, go_sem, e0, e1, e2]) rfl ?_
    obtain rfl := HF.out
    obtain rfl := HO.out
    exact ⟨_, none, 0, 0, none, 0, 0, rfl, hIZ.out, SlV.empty _, SlV.empty _, rfl, rfl⟩
  subst hz
  obtain ⟨hd3, hdr⟩ := listF_zero hlf.out
  rw [hll.out] at hd3 hdr
  have HDR := Lib.hid hdr
  have hF2 := HF0.out
  rw [if_neg (by simp)] at hF2
  have HF1 := Lib.hid hF2
  clear hdr hF2 HF0
  by_cases hln : nd = nl
  case neg =>
    have hnn : ((nd : Int) != nl) = true := by simp; omega
    have HF : Hid (F = 3) := Lib.hid (by rw [← HF1.out, if_pos hln])
    have HO : Hid (r = (0, [], [])) := Lib.hid (by rw [← ho.out, repoR, HF.out]; rfl)
    clear hln
    go_wp2_with fail
    refine C1.out.mono ?_
    rintro e w2 ⟨rfl, hb2⟩
    have H2 := Lib.hid (H1.out.callB hb2)
    clear hb2 p0 p1
    have z0 : _ = some (Value.int .i64 0) := H2.out.k.cell 0
    have z1 : _ = some (Value.slice none 0 0) := H2.out.k.cell 1
    have z2 : _ = some (Value.slice none 0 0) := H2.out.k.cell 2
    have x0 := H2.out.k.frz 0
    have x1 := H2.out.k.frz 1
    have x2 := H2.out.k.frz 2
    have hIZ := Lib.hid (((H2.out.inv.setCell H2.out.l H2.out.f (off := 0) (Value.int .i64 0)).setCell H2.out.l H2.out.f (off := 1) (Value.slice none 0 0)).setCell H2.out.l H2.out.f (off := 2) (Value.slice none 0 0))
    have hBZ := Lib.hid (((H2.out.k.set 0 (Value.int .i64 0)).set 1 (Value.slice none 0 0)).set 2 (Value.slice none 0 0))
    go_wp2
    have e0 : _ = some (Value.int .i64 0) := hBZ.out.cell 0
    have e1 : _ = some (Value.slice none 0 0) := hBZ.out.cell 1
    have e2 : _ = some (Value.slice none 0 0) := hBZ.out.cell 2
    (try simp only [Exit.inBlock, Exit.then])
    refine bodyPost_ret (v := .tuple #[.agg #[(Value.int .i64 0), (Value.slice none 0 0), (Value.slice none 0 0)], .int .i64 3]) (by simp [results, Tryd.results11, go_sem, e0, e1, e2]) rfl ?_
    obtain rfl := HF.out
    obtain rfl := HO.out
    exact ⟨_, none, 0, 0, none, 0, 0, rfl, hIZ.out, SlV.empty _, SlV.empty _, rfl, rfl⟩
  subst hln
  have hnn : ((nd : Int) != nd) = false := by simp
  have HF2 : Hid (scan (rpF fs.length l d) nd = F) := Lib.hid (by rw [← HF1.out, if_neg (by simp)])
  have OK := Lib.hid (planF_zero hP.out)
  have HO : Hid (r = if F = 0 then rpK es n m l d nd else (0, [], [])) := Lib.hid (by rw [← ho.out, repoR, hn.out, hne.out, hdl.out])
  rw [hn.out, hne.out] at OK
  rw [hn.out] at HF2
  have h12 := OK.out.pos
  have h60 := OK.out.cnt
  have HDR2 : Hid (∀ i, i < nd → (l.getD i []).length = n) := Lib.hid (fun i hi => (HDR.out i hi).trans hn.out)
  clear hlf HDR hne HF1 ho
  have HPP := Lib.hid (fun (w' : World) (hf : Fz φ1 w') => And.intro ((HBX.out φ1 (Phi.le_refl _) w' hf).cell 0) ((HBX.out φ1 (Phi.le_refl _) w' hf).cell 1))
  go_wp2_with fail
  refine C1.out.mono ?_
  rintro e w2 ⟨rfl, hb2⟩
  have H2 := Lib.hid (H1.out.callB hb2)
  clear hb2 p0 p1 C1 H1
  have p0 : w2.cell? ⟨bp, 0, none⟩ = some (.slice a n cap) := (HPP.out w2 H2.out.inv.fz).1
  have p1 : w2.cell? ⟨bp, 1, none⟩ = some (.slice ae m ce) := (HPP.out w2 H2.out.inv.fz).2
  go_wp2
  have em := makeI_eq m (by omega)
  have en := makeI_eq n (by omega)
  have q0 : ∀ o W, World.cell? W ⟨bp, 0, none⟩ = some (.slice a n cap) → (World.alloc W o).cell? ⟨bp, 0, none⟩ = some (.slice a n cap) := fun o W h => cell_alloc h
  have q1 : ∀ o W, World.cell? W ⟨bp, 1, none⟩ = some (.slice ae m ce) → (World.alloc W o).cell? ⟨bp, 1, none⟩ = some (.slice ae m ce) := fun o W h => cell_alloc h
  obtain ⟨s0, hs0⟩ : ∃ s, Hid (w2.heap.size = s) := ⟨_, Lib.hid rfl⟩
  obtain ⟨s1, hs1⟩ : ∃ s, Hid (s0 + 1 = s) := ⟨_, Lib.hid rfl⟩
  obtain ⟨s2, hs2⟩ : ∃ s, Hid (s1 + 1 = s) := ⟨_, Lib.hid rfl⟩
  have hmx : m ≤ maxLen := by unfold maxLen; omega
  have hnx : n ≤ maxLen := by unfold maxLen; omega
  apply wp_region_cut3 (S := fun b10 g1 g2 W => Hid (RtSt w φ φ1 b6 b10 g1 g2 m n m n 0 (List.replicate m 0) (List.replicate n 0) W))
  case h1 =>
    go_region
    all_goals
      simp only [hs0.out, hs1.out, hs2.out]
      first
        | (refine onlyN_mk ⟨s2, s0, s1, by rfl, ?_⟩
           obtain rfl := hs2.out
           obtain rfl := hs1.out
           obtain rfl := hs0.out
           have hi := Inv.start (H2.out.inv.fz)
           refine Lib.hid (RtSt.make H2.out (((hi.alloc _).alloc _).alloc _).drew.bel ?_ ?_ ?_ (by omega) (by omega) (by omega) (by omega))
           · first
               | exact (((Own.made' hi _ m hmx rfl).alloc _).alloc _).drew
               | exact ((Own.made' (hi.alloc _) _ m hmx (alloc_size _ _)).alloc _).drew
               | exact (Own.made' ((hi.alloc _).alloc _) _ m hmx (by rw [alloc_size, alloc_size])).drew
           · first
               | exact (((Own.made' hi _ n hnx rfl).alloc _).alloc _).drew
               | exact ((Own.made' (hi.alloc _) _ n hnx (alloc_size _ _)).alloc _).drew
               | exact (Own.made' ((hi.alloc _).alloc _) _ n hnx (by rw [alloc_size, alloc_size])).drew
           · first
               | exact ((Blk.new' rfl).alloc _).alloc _
               | exact (Blk.new' (alloc_size _ _)).alloc _
               | exact Blk.new' (by rw [alloc_size, alloc_size]))
        | (refine onlyN_mk ⟨s1, s0, s2, by rfl, ?_⟩
           obtain rfl := hs2.out
           obtain rfl := hs1.out
           obtain rfl := hs0.out
           have hi := Inv.start (H2.out.inv.fz)
           refine Lib.hid (RtSt.make H2.out (((hi.alloc _).alloc _).alloc _).drew.bel ?_ ?_ ?_ (by omega) (by omega) (by omega) (by omega))
           · first
               | exact (((Own.made' hi _ m hmx rfl).alloc _).alloc _).drew
               | exact ((Own.made' (hi.alloc _) _ m hmx (alloc_size _ _)).alloc _).drew
               | exact (Own.made' ((hi.alloc _).alloc _) _ m hmx (by rw [alloc_size, alloc_size])).drew
           · first
               | exact (((Own.made' hi _ n hnx rfl).alloc _).alloc _).drew
               | exact ((Own.made' (hi.alloc _) _ n hnx (alloc_size _ _)).alloc _).drew
               | exact (Own.made' ((hi.alloc _).alloc _) _ n hnx (by rw [alloc_size, alloc_size])).drew
           · first
               | exact ((Blk.new' rfl).alloc _).alloc _
               | exact (Blk.new' (alloc_size _ _)).alloc _
               | exact Blk.new' (by rw [alloc_size, alloc_size]))
        | (refine onlyN_mk ⟨s2, s1, s0, by rfl, ?_⟩
           obtain rfl := hs2.out
           obtain rfl := hs1.out
           obtain rfl := hs0.out
           have hi := Inv.start (H2.out.inv.fz)
           refine Lib.hid (RtSt.make H2.out (((hi.alloc _).alloc _).alloc _).drew.bel ?_ ?_ ?_ (by omega) (by omega) (by omega) (by omega))
           · first
               | exact (((Own.made' hi _ m hmx rfl).alloc _).alloc _).drew
               | exact ((Own.made' (hi.alloc _) _ m hmx (alloc_size _ _)).alloc _).drew
               | exact (Own.made' ((hi.alloc _).alloc _) _ m hmx (by rw [alloc_size, alloc_size])).drew
           · first
               | exact (((Own.made' hi _ n hnx rfl).alloc _).alloc _).drew
               | exact ((Own.made' (hi.alloc _) _ n hnx (alloc_size _ _)).alloc _).drew
               | exact (Own.made' ((hi.alloc _).alloc _) _ n hnx (by rw [alloc_size, alloc_size])).drew
           · first
               | exact ((Blk.new' rfl).alloc _).alloc _
               | exact (Blk.new' (alloc_size _ _)).alloc _
               | exact Blk.new' (by rw [alloc_size, alloc_size]))
        | (refine onlyN_mk ⟨s1, s2, s0, by rfl, ?_⟩
           obtain rfl := hs2.out
           obtain rfl := hs1.out
           obtain rfl := hs0.out
           have hi := Inv.start (H2.out.inv.fz)
           refine Lib.hid (RtSt.make H2.out (((hi.alloc _).alloc _).alloc _).drew.bel ?_ ?_ ?_ (by omega) (by omega) (by omega) (by omega))
           · first
               | exact (((Own.made' hi _ m hmx rfl).alloc _).alloc _).drew
               | exact ((Own.made' (hi.alloc _) _ m hmx (alloc_size _ _)).alloc _).drew
               | exact (Own.made' ((hi.alloc _).alloc _) _ m hmx (by rw [alloc_size, alloc_size])).drew
           · first
               | exact (((Own.made' hi _ n hnx rfl).alloc _).alloc _).drew
               | exact ((Own.made' (hi.alloc _) _ n hnx (alloc_size _ _)).alloc _).drew
               | exact (Own.made' ((hi.alloc _).alloc _) _ n hnx (by rw [alloc_size, alloc_size])).drew
           · first
               | exact ((Blk.new' rfl).alloc _).alloc _
               | exact (Blk.new' (alloc_size _ _)).alloc _
               | exact Blk.new' (by rw [alloc_size, alloc_size]))
        | (refine onlyN_mk ⟨s0, s1, s2, by rfl, ?_⟩
           obtain rfl := hs2.out
           obtain rfl := hs1.out
           obtain rfl := hs0.out
           have hi := Inv.start (H2.out.inv.fz)
           refine Lib.hid (RtSt.make H2.out (((hi.alloc _).alloc _).alloc _).drew.bel ?_ ?_ ?_ (by omega) (by omega) (by omega) (by omega))
           · first
               | exact (((Own.made' hi _ m hmx rfl).alloc _).alloc _).drew
               | exact ((Own.made' (hi.alloc _) _ m hmx (alloc_size _ _)).alloc _).drew
               | exact (Own.made' ((hi.alloc _).alloc _) _ m hmx (by rw [alloc_size, alloc_size])).drew
           · first
               | exact (((Own.made' hi _ n hnx rfl).alloc _).alloc _).drew
               | exact ((Own.made' (hi.alloc _) _ n hnx (alloc_size _ _)).alloc _).drew
               | exact (Own.made' ((hi.alloc _).alloc _) _ n hnx (by rw [alloc_size, alloc_size])).drew
           · first
               | exact ((Blk.new' rfl).alloc _).alloc _
               | exact (Blk.new' (alloc_size _ _)).alloc _
               | exact Blk.new' (by rw [alloc_size, alloc_size]))
        | (refine onlyN_mk ⟨s0, s2, s1, by rfl, ?_⟩
           obtain rfl := hs2.out
           obtain rfl := hs1.out
           obtain rfl := hs0.out
           have hi := Inv.start (H2.out.inv.fz)
           refine Lib.hid (RtSt.make H2.out (((hi.alloc _).alloc _).alloc _).drew.bel ?_ ?_ ?_ (by omega) (by omega) (by omega) (by omega))
           · first
               | exact (((Own.made' hi _ m hmx rfl).alloc _).alloc _).drew
               | exact ((Own.made' (hi.alloc _) _ m hmx (alloc_size _ _)).alloc _).drew
               | exact (Own.made' ((hi.alloc _).alloc _) _ m hmx (by rw [alloc_size, alloc_size])).drew
           · first
               | exact (((Own.made' hi _ n hnx rfl).alloc _).alloc _).drew
               | exact ((Own.made' (hi.alloc _) _ n hnx (alloc_size _ _)).alloc _).drew
               | exact (Own.made' ((hi.alloc _).alloc _) _ n hnx (by rw [alloc_size, alloc_size])).drew
           · first
               | exact ((Blk.new' rfl).alloc _).alloc _
               | exact (Blk.new' (alloc_size _ _)).alloc _
               | exact Blk.new' (by rw [alloc_size, alloc_size]))
  case h2 =>
  intro b10 g1 g2 W2 hT0
  clear q0 q1 em en hs0 hs1 hs2
  go_wp2
  go_loopw [48] (fun ix wr => ∃ (k : Nat) (φ3 : Phi), k ≤ nd ∧ ix = .int .i64 k ∧ Hid (∀ i, i < k → rpF n l d i = 0) ∧ Hid (φ1.le φ3) ∧ Hid (RtSt w φ φ3 b6 b10 g1 g2 m n m n (rpK es n m l d k).1 (rpK es n m l d k).2.1 (rpK es n m l d k).2.2 wr)) (fun ix _ => nd - (intOf ix).toNat)
  case atStart => exact ⟨0, φ1, Nat.zero_le _, rfl, Lib.hid (fun i hi => by omega), Lib.hid (Phi.le_refl _), hT0⟩
  case round =>
    clear hT0
    obtain ⟨k, φ3, hk, rfl, hok, L23, hS⟩ := hrel
    by_cases hlt : k < nd
    · have L03 := Lib.hid (LE1.out.trans L23.out)
      obtain ⟨b3, o3, rfl, f3⟩ := (sd.mono L03.out).rpr1D hdl hlt
      obtain ⟨ar, cr, af, cf, s5, s6, f3⟩ := f3 k hlt
      obtain ⟨_, d0, d1, d2⟩ := f3 wr hS.out.inv.fz
      obtain ⟨bl, ol, rfl, f4⟩ := (sl.mono L03.out).lists hll hlt
      obtain ⟨a4, c4, s4, f4⟩ := f4 k hlt
      have HL3 : Hid (∀ W, Fz φ3 W → W.cell? ⟨bl, ol + k, none⟩ = some (.slice a4 n c4)) := Lib.hid (fun W h => by have := (f4 W h).2; rw [HDR2.out k hlt] at this; exact this)
      have hxl := Lib.hid (HDR2.out k hlt)
      have HBAD := Lib.hid (rpF.eq_1 n l d k)
      have HNX := Lib.hid (rpK.eq_2 es n m l d k)
      have HCN : Hid ((d.getD k rpr1).2.1.length ≤ n → 0 ≤ (rpK es n m l d k).1 ∧ (rpK es n m l d k).1 ≤ k ∧ CntB (60 * k) (rpK es n m l d k).2.1 ∧ CntB (12 * k) (rpK es n m l d k).2.2) := Lib.hid (fun _ => rpK_cnt h60 h12.2 k (fun i hi => by rw [← (rpF_zero (hok.out i hi)).2.2]; exact apL_len _ _ _))
      have HRL := Lib.hid (rpK_len (es := es) (n := n) (m := m) (l := l) (d := d) k)
      generalize d.getD k rpr1 = y at *
      obtain ⟨rc, fl, dn⟩ := y
      generalize l.getD k [] = x at *
      generalize rpK es n m l d k = ps at *
      obtain ⟨pc, X1, X2⟩ := ps
      dsimp only at s5 s6 d0 d1 d2 HBAD HNX HCN HRL hS
      obtain ⟨nr, hnr⟩ : ∃ j, Hid (rc.length = j) := ⟨_, Lib.hid rfl⟩
      obtain ⟨nf, hnf⟩ : ∃ j, Hid (fl.length = j) := ⟨_, Lib.hid rfl⟩
      rw [hnr.out] at d0
      rw [hnf.out] at d1
      obtain ⟨φ4, l34, i4, k4⟩ := (Inv.start hS.out.inv.fz).frz (.cells #[.slice ar nr cr, .slice af nf cf, .int .i64 dn] 34)
      have HC4 := Lib.hid (fun (φ' : Phi) (h : φ4.le φ') (W : World) (hf : Fz φ' W) => hf.blk (h _ _ k4))
      have L34 := Lib.hid l34
      have hS4 := Lib.hid (hS.out.call i4)
      have S5 := Lib.hid (s5.mono l34)
      have S6 := Lib.hid (s6.mono l34)
      have S4 := Lib.hid (s4.mono l34)
      have L04 := Lib.hid (L03.out.trans l34)
      have HL4 := Lib.hid (fun (φ' : Phi) (h : φ4.le φ') (W : World) (hf : Fz φ' W) => HL3.out W (hf.sub (L34.out.trans h)))
      have hnrl := s5.len
      have hnfl := s6.len
      rw [hnr.out] at hnrl
      rw [hnf.out] at hnfl
      have y0 : (wr.alloc (.cells #[.slice ar nr cr, .slice af nf cf, .int .i64 dn] 34)).cell? ⟨wr.heap.size, 0, none⟩ = some (.slice ar nr cr) := box_at 0
      have p0 : (wr.alloc (.cells #[.slice ar nr cr, .slice af nf cf, .int .i64 dn] 34)).cell? ⟨bp, 0, none⟩ = some (.slice a n cap) := (HPP.out _ (hS4.out.inv.fz.sub (L23.out.trans l34))).1
      have p1 : (wr.alloc (.cells #[.slice ar nr cr, .slice af nf cf, .int .i64 dn] 34)).cell? ⟨bp, 1, none⟩ = some (.slice ae m ce) := (HPP.out _ (hS4.out.inv.fz.sub (L23.out.trans l34))).2
      clear f3 f4 l34 i4 k4 hS HL3 s4 s5 s6
      obtain ⟨q, hq⟩ : ∃ q, Hid (recF n rc = q) := ⟨_, Lib.hid rfl⟩
      rw [hq.out] at HBAD
      go_wp2_with fail
      clear d0 d1 d2 y0 p0 p1
      generalize wr.alloc (.cells #[.slice ar nr cr, .slice af nf cf, .int .i64 dn] 34) = wy at *
      generalize wr.heap.size = bd at *
      refine (RcheckRecord_any n a cap fs m ae ce es wy φ4 hS4.out.inv.fz (s.mono L04.out) (se.mono L04.out) hn nr ar cr rc S5.out hnr hnrl hq).mono ?_
      rintro e wz ⟨rfl, hbz⟩
      replace hS4 := Lib.hid (hS4.out.callB hbz)
      clear hbz
      by_cases hq0 : q = 0
      case neg =>
        have hqq : (q != 0) = true := by simp [hq0]
        have HQ2 : Hid (rpF n l d k = q) := Lib.hid (by rw [HBAD.out, if_pos hq0])
        have HF : Hid (F = q) := Lib.hid (by rw [← HF2.out, scan_stop hok.out hlt (by rw [HQ2.out]; exact hq0), HQ2.out])
        have HO : Hid (r = (0, [], [])) := Lib.hid (by rw [HO.out, HF.out, if_neg hq0])
        clear hq0
        have z0 : _ = some (Value.int .i64 0) := hS4.out.k6.cell 0
        have z1 : _ = some (Value.slice none 0 0) := hS4.out.k6.cell 1
        have z2 : _ = some (Value.slice none 0 0) := hS4.out.k6.cell 2
        have x0 := hS4.out.k6.frz 0
        have x1 := hS4.out.k6.frz 1
        have x2 := hS4.out.k6.frz 2
        have hIZ := Lib.hid (((hS4.out.inv.setCell hS4.out.l6 hS4.out.f6 (off := 0) (Value.int .i64 0)).setCell hS4.out.l6 hS4.out.f6 (off := 1) (Value.slice none 0 0)).setCell hS4.out.l6 hS4.out.f6 (off := 2) (Value.slice none 0 0))
        have hBZ := Lib.hid (((hS4.out.k6.set 0 (Value.int .i64 0)).set 1 (Value.slice none 0 0)).set 2 (Value.slice none 0 0))
        go_wp2
        have e0 : _ = some (Value.int .i64 0) := hBZ.out.cell 0
        have e1 : _ = some (Value.slice none 0 0) := hBZ.out.cell 1
        have e2 : _ = some (Value.slice none 0 0) := hBZ.out.cell 2
        (try simp only [Exit.inBlock, Exit.then])
        refine bodyPost_ret (v := .tuple #[.agg #[(Value.int .i64 0), (Value.slice none 0 0), (Value.slice none 0 0)], .int .i64 q]) (by simp [results, Tryd.results11, go_sem, e0, e1, e2]) rfl ?_
        obtain rfl := HF.out
        obtain rfl := HO.out
        exact ⟨_, none, 0, 0, none, 0, 0, rfl, hIZ.out, SlV.empty _, SlV.empty _, rfl, rfl⟩
      subst hq0
      obtain rfl : nr = n := by rw [← hnr.out, recF_len hq.out]
      have y2 : wz.cell? ⟨bd, 2, none⟩ = some (.int .i64 dn) := (HC4.out φ4 (Phi.le_refl _) wz hS4.out.inv.fz).cell 2
      obtain ⟨o, ho⟩ : ∃ o, Hid (outB dn (-1) ((nd : Int) - 1) = o) := ⟨_, Lib.hid rfl⟩
      rw [if_neg (by simp), hll.out, ho.out] at HBAD
      go_wp2_with fail
      refine (within_b _ _ _ _ ho.out).mono ?_
      rintro e w' ⟨rfl, rfl⟩
      cases o with
      | true =>
        have HQ2 : Hid (rpF nr l d k = 1) := Lib.hid (by rw [HBAD.out, if_pos rfl])
        have HF : Hid (F = 1) := Lib.hid (by rw [← HF2.out, scan_stop hok.out hlt (by rw [HQ2.out]; decide), HQ2.out])
        have HO : Hid (r = (0, [], [])) := Lib.hid (by rw [HO.out, HF.out]; rfl)
        clear y2
        have z0 : _ = some (Value.int .i64 0) := hS4.out.k6.cell 0
        have z1 : _ = some (Value.slice none 0 0) := hS4.out.k6.cell 1
        have z2 : _ = some (Value.slice none 0 0) := hS4.out.k6.cell 2
        have x0 := hS4.out.k6.frz 0
        have x1 := hS4.out.k6.frz 1
        have x2 := hS4.out.k6.frz 2
        have hIZ := Lib.hid (((hS4.out.inv.setCell hS4.out.l6 hS4.out.f6 (off := 0) (Value.int .i64 0)).setCell hS4.out.l6 hS4.out.f6 (off := 1) (Value.slice none 0 0)).setCell hS4.out.l6 hS4.out.f6 (off := 2) (Value.slice none 0 0))
        have hBZ := Lib.hid (((hS4.out.k6.set 0 (Value.int .i64 0)).set 1 (Value.slice none 0 0)).set 2 (Value.slice none 0 0))
        go_wp2
        have e0 : _ = some (Value.int .i64 0) := hBZ.out.cell 0
        have e1 : _ = some (Value.slice none 0 0) := hBZ.out.cell 1
        have e2 : _ = some (Value.slice none 0 0) := hBZ.out.cell 2
        (try simp only [Exit.inBlock, Exit.then])
        refine bodyPost_ret (v := .tuple #[.agg #[(Value.int .i64 0), (Value.slice none 0 0), (Value.slice none 0 0)], .int .i64 1]) (by simp [results, Tryd.results11, go_sem, e0, e1, e2]) rfl ?_
        obtain rfl := HF.out
        obtain rfl := HO.out
        exact ⟨_, none, 0, 0, none, 0, 0, rfl, hIZ.out, SlV.empty _, SlV.empty _, rfl, rfl⟩
      | false =>
        rw [if_neg (by simp)] at HBAD
        clear y2
        have hSd : Hid (RtSt w φ φ4 b6 b10 g1 g2 m nr m nr pc X1 X2 wz.drew) := Lib.hid (hS4.out.callB (bdrewN (Below.refl wz.heap.size wz) 1))
        have q0 : wz.cell? ⟨bl, ol + k, none⟩ = some (.slice a4 nr c4) := HL4.out φ4 (Phi.le_refl _) wz hS4.out.inv.fz
        have q1 : wz.cell? ⟨bd, 0, none⟩ = some (.slice ar nr cr) := (HC4.out φ4 (Phi.le_refl _) wz hS4.out.inv.fz).cell 0
        have q2 : wz.cell? ⟨bd, 1, none⟩ = some (.slice af nf cf) := (HC4.out φ4 (Phi.le_refl _) wz hS4.out.inv.fz).cell 1
        obtain ⟨al, hal⟩ : ∃ al, Hid (apL x rc nr = al) := ⟨_, Lib.hid rfl⟩
        obtain ⟨nal, hnal⟩ : ∃ j, Hid (al.length = j) := ⟨_, Lib.hid rfl⟩
        rw [hal.out] at HBAD
        have hnal12 : nal ≤ nr := by rw [← hnal.out, ← hal.out]; exact apL_len _ _ _
        obtain ⟨b, hb⟩ : ∃ b, Hid (decide (fl = al) = b) := ⟨_, Lib.hid rfl⟩
        have hnalm : nal ≤ 9223372036854775807 := by omega
        go_wp2
        go_region_held3 (fun w' => w'.cell? ⟨bl, ol + k, none⟩ = some (.slice a4 nr c4) ∧ w'.cell? ⟨bd, 0, none⟩ = some (.slice ar nr cr) ∧ w'.cell? ⟨bd, 1, none⟩ = some (.slice af nf cf)) (first | exact ⟨q0, q1, q2⟩ | exact ⟨by assumption, by assumption, by assumption⟩) (first
          | ((with_reducible refine ((Rchanged_any nr h12.2 wz.drew hSd.out.inv.fz a4 c4 x S4.out hxl ar cr rc S5.out hnr).mono (fun e w h => OwnPost.toN (k := nal) (by rw [hal.out]; exact hnal.out) h)).mono ?_); rintro e w9 ⟨a9, c9, rfl, hi9, ho9⟩; obtain ⟨φ5, l5, i5, s9, _⟩ := ho9.release hi9; have hS9 := Lib.hid (hSd.out.call i5); have L45 := Lib.hid l5; have S9 := Lib.hid s9; have z0 := HL4.out φ5 l5 w9 i5.fz; have z1 : w9.cell? ⟨bd, 0, none⟩ = some (.slice ar nr cr) := (HC4.out φ5 l5 w9 i5.fz).cell 0; have z2 : w9.cell? ⟨bd, 1, none⟩ = some (.slice af nf cf) := (HC4.out φ5 l5 w9 i5.fz).cell 1; clear hi9 ho9 l5 i5 s9)
          | ((with_reducible refine (Equal_b nf af cf fl nal a9 c9 al w9 φ5 hS9.out.inv.fz (S6.out.mono L45.out) hnf hnfl (by rw [← hal.out]; exact S9.out) hnal hb).mono ?_); rintro e w10 ⟨rfl, hb10⟩; have hS10 := Lib.hid (hS9.out.callB hb10); have t0 := HL4.out φ5 L45.out w10 hS10.out.inv.fz; have t1 : w10.cell? ⟨bd, 0, none⟩ = some (.slice ar nr cr) := (HC4.out φ5 L45.out w10 hS10.out.inv.fz).cell 0; have t2 : w10.cell? ⟨bd, 1, none⟩ = some (.slice af nf cf) := (HC4.out φ5 L45.out w10 hS10.out.inv.fz).cell 1; clear hb10))
        have L05 := Lib.hid (L04.out.trans L45.out)
        clear hSd hS4 q0 q1 q2 z0 z1 z2 t0 t1 t2 hS9
        cases b with
        | false =>
          have HQ2 : Hid (rpF nr l d k = 3) := Lib.hid (by rw [HBAD.out, if_neg (fun e => by simpa using (of_decide_eq_false hb.out) e.symm)])
          have HF : Hid (F = 3) := Lib.hid (by rw [← HF2.out, scan_stop hok.out hlt (by rw [HQ2.out]; decide), HQ2.out])
          have HO : Hid (r = (0, [], [])) := Lib.hid (by rw [HO.out, HF.out]; rfl)
          have z0 : _ = some (Value.int .i64 0) := hS10.out.k6.cell 0
          have z1 : _ = some (Value.slice none 0 0) := hS10.out.k6.cell 1
          have z2 : _ = some (Value.slice none 0 0) := hS10.out.k6.cell 2
          have x0 := hS10.out.k6.frz 0
          have x1 := hS10.out.k6.frz 1
          have x2 := hS10.out.k6.frz 2
          have hIZ := Lib.hid (((hS10.out.inv.setCell hS10.out.l6 hS10.out.f6 (off := 0) (Value.int .i64 0)).setCell hS10.out.l6 hS10.out.f6 (off := 1) (Value.slice none 0 0)).setCell hS10.out.l6 hS10.out.f6 (off := 2) (Value.slice none 0 0))
          have hBZ := Lib.hid (((hS10.out.k6.set 0 (Value.int .i64 0)).set 1 (Value.slice none 0 0)).set 2 (Value.slice none 0 0))
          go_wp2
          have e0 : _ = some (Value.int .i64 0) := hBZ.out.cell 0
          have e1 : _ = some (Value.slice none 0 0) := hBZ.out.cell 1
          have e2 : _ = some (Value.slice none 0 0) := hBZ.out.cell 2
          (try simp only [Exit.inBlock, Exit.then])
          refine bodyPost_ret (v := .tuple #[.agg #[(Value.int .i64 0), (Value.slice none 0 0), (Value.slice none 0 0)], .int .i64 3]) (by simp [results, Tryd.results11, go_sem, e0, e1, e2]) rfl ?_
          obtain rfl := HF.out
          obtain rfl := HO.out
          exact ⟨_, none, 0, 0, none, 0, 0, rfl, hIZ.out, SlV.empty _, SlV.empty _, rfl, rfl⟩
        | true =>
          have heq : al = fl := (of_decide_eq_true hb.out).symm
          have HQ2 : Hid (rpF nr l d k = 0) := Lib.hid (by rw [HBAD.out, if_pos heq])
          have hok2 := next_ok hok HQ2.out
          have HFR : Hid (∀ j, j < nf → 0 ≤ fl.getD j 0 ∧ fl.getD j 0 < (nr : Int)) := Lib.hid (fun j hj => by
            have hm : fl.getD j 0 ∈ apL x rc nr := by rw [hal.out, heq, getD_elem0 _ _ _ (by rw [hnf.out]; exact hj)]; exact List.getElem_mem _
            exact mem_apL2 hm)
          have hnf12 : nf ≤ nr := by rw [← hnf.out, ← heq, hnal.out]; exact hnal12
          have HC2 := Lib.hid (HCN.out (by rw [hnf.out]; exact hnf12))
          have hpc := HC2.out.2.1
          have hpc0 := HC2.out.1
          clear heq HBAD hb hq ho
          have x1 : w10.cell? ⟨bd, 1, none⟩ = some (.slice af nf cf) := (HC4.out φ5 L45.out w10 hS10.out.inv.fz).cell 1
          by_cases hz : nf = 0
          · have hg0 : ¬ (0 : Int) < nf := by omega
            have HPC : Hid (pc + (if fl.length = 0 then 0 else 1) = pc) := Lib.hid (by rw [hnf.out, if_pos hz]; omega)
            clear hz
            have hS11 := hS10
            have p0 : w10.cell? ⟨bp, 0, none⟩ = some (.slice a nr cap) := (HPP.out w10 (hS11.out.inv.fz.sub (((L23.out.trans L34.out)).trans L45.out))).1
            have p1 : w10.cell? ⟨bp, 1, none⟩ = some (.slice ae m ce) := (HPP.out w10 (hS11.out.inv.fz.sub (((L23.out.trans L34.out)).trans L45.out))).2
            have e4 : w10.cell? ⟨bl, ol + k, none⟩ = some (.slice a4 nr c4) := HL4.out φ5 L45.out w10 hS11.out.inv.fz
            have hSd : Hid (RtSt w φ φ5 b6 b10 g1 g2 m nr m nr pc X1 X2 (World.drew w10)) := Lib.hid (hS11.out.callB (bdrewN (Below.refl (w10).heap.size w10) 1))
            obtain ⟨el, hel⟩ : ∃ el, Hid (failL es x nr m = el) := ⟨_, Lib.hid rfl⟩
            obtain ⟨ne, hne⟩ : ∃ ne, Hid (el.length = ne) := ⟨_, Lib.hid rfl⟩
            have HER : Hid (∀ i, i < ne → 0 ≤ el.getD i 0 ∧ el.getD i 0 < (m : Int)) := Lib.hid (fun i hi => by
              have hm : el.getD i 0 ∈ failL es x nr m := by rw [hel.out, getD_elem0 _ _ _ (by rw [hne.out]; exact hi)]; exact List.getElem_mem _
              exact failL_rng _ hm)
            have hne60 : ne ≤ 60 := by
              rw [← hne.out, ← hel.out]
              unfold failL
              rw [List.length_map]
              exact Nat.le_trans (Nat.le_trans (List.length_filter_le _ _) (by simp)) h60
            rw [hel.out] at HNX
            go_wp2
            go_region_held3 (fun w' => w'.cell? ⟨bp, 0, none⟩ = some (.slice a nr cap) ∧ w'.cell? ⟨bp, 1, none⟩ = some (.slice ae m ce) ∧ w'.cell? ⟨bl, ol + k, none⟩ = some (.slice a4 nr c4)) (first | exact ⟨p0, p1, e4⟩ | exact ⟨by assumption, by assumption, by assumption⟩) (first
              | ((with_reducible refine ((Rfailed_any nr a cap fs m ae ce es _ φ5 hSd.out.inv.fz (s.mono L05.out) (se.mono L05.out) OK.out a4 c4 x (S4.out.mono L45.out) hxl).mono (fun e w h => OwnPost.toN (k := ne) (by rw [hel.out]; exact hne.out) h)).mono ?_); rintro e w12 ⟨a12, c12, rfl, hi12, ho12⟩; obtain ⟨φ6, l6, i6, s12, _⟩ := ho12.release hi12; have hT12 := Lib.hid (hSd.out.call i6); have S12 : Hid (SlV φ6 a12 c12 el) := Lib.hid (by rw [← hel.out]; exact s12); have L56 := Lib.hid l6; have z0 := (HPP.out w12 (i6.fz.sub ((((L23.out.trans L34.out)).trans L45.out).trans l6))).1; have z1 := (HPP.out w12 (i6.fz.sub ((((L23.out.trans L34.out)).trans L45.out).trans l6))).2; have z2 := HL4.out φ6 (L45.out.trans l6) w12 i6.fz; clear hi12 ho12 l6 i6 s12))
            clear p0 p1 e4 z0 z1 z2 hSd
            go_wp2
            go_loopw [96] (fun jx wj => ∃ j : Nat, j ≤ ne ∧ jx = .int .i64 j ∧ Hid (RtSt w φ φ6 b6 b10 g1 g2 m nr m nr pc (bumps X1 (el.take j)) X2 wj)) (fun jx _ => ne - (intOf jx).toNat)
            case atStart => exact ⟨0, Nat.zero_le _, rfl, hT12⟩
            case round =>
              clear hT12 hS11 hS10
              obtain ⟨i, hi, rfl, hU⟩ := hrel
              rename World => wi
              by_cases hil : i < ne
              · obtain ⟨bf, of, rfl, ff⟩ := S12.out.intsD hne hil
                have e1 := (ff i hil wi hU.out.inv.fz).2
                have hr := HER.out i hil
                have hbt := Lib.hid (bumps_take (l := X1) (by rw [hne.out]; exact hil))
                obtain ⟨v, hv⟩ : ∃ v : Nat, el.getD i 0 = (v : Int) := ⟨(el.getD i 0).toNat, by omega⟩
                rw [hv] at e1 hr hbt
                have hvn : v < m := by omega
                obtain ⟨_, hg, _, fo⟩ := hU.out.o1.intsD (n := m) (Lib.hid (by rw [bumps_len]; exact HRL.out.1)) hvn
                cases hg
                obtain ⟨t1, t2, t3⟩ := fo v hvn
                obtain ⟨u, hu⟩ : ∃ u, Hid ((bumps X1 (el.take i)).getD v 0 = u) := ⟨_, Lib.hid rfl⟩
                have hub : 0 ≤ u ∧ u ≤ 1000000 := by
                  have h := (HC2.out.2.2.1.bumps (el.take i)) v
                  rw [hu.out, List.length_take, Nat.min_eq_left (by rw [hne.out]; exact hi)] at h
                  omega
                rw [hu.out] at t1
                have hP := Lib.hid (hU.out.put1 (t3 (u + 1) w φ hU.out.inv).1 (t3 (u + 1) w φ hU.out.inv).2)
                have hbt2 : Hid ((bumps X1 (el.take i)).set v (u + 1) = bumps X1 (el.take (i + 1))) := Lib.hid (by rw [hbt.out, bump, Int.toNat_natCast, hu.out])
                rw [hbt2.out] at hP
                have e2 : wi.cell? ⟨b10, 1, none⟩ = some (.slice (some ⟨g1, 0, none⟩) m m) := hU.out.k10.cell 1
                have hub1 := hub.1
                have hub2 := hub.2
                clear ff fo t3 hr hv hub
                go_wp2
                go_roundw
                case rel => exact ⟨i + 1, by omega, by go_num, hP⟩
                case measure => (simp [intOf] <;> omega)
              · obtain rfl : i = ne := by omega
                rw [List.take_of_length_le (by rw [hne.out]; exact Nat.le_refl _)] at hU
                have x1 : wi.cell? ⟨bd, 1, none⟩ = some (.slice af nf cf) := (HC4.out φ6 (L45.out.trans L56.out) wi hU.out.inv.fz).cell 1
                go_wp2
                go_loopw [111] (fun jx wj => ∃ j : Nat, j ≤ nf ∧ jx = .int .i64 j ∧ Hid (RtSt w φ φ6 b6 b10 g1 g2 m nr m nr pc (bumps X1 el) (bumps X2 (fl.take j)) wj)) (fun jx _ => nf - (intOf jx).toNat)
                case atStart => exact ⟨0, Nat.zero_le _, rfl, hU⟩
                case round =>
                  clear hU x1
                  obtain ⟨j, hj, rfl, hT⟩ := hrel
                  rename World => wj
                  by_cases hjl : j < nf
                  · exfalso; omega
                  · obtain rfl : j = nf := by omega
                    rw [List.take_of_length_le (by rw [hnf.out]; exact Nat.le_refl _)] at hT
                    go_wp2
                    go_roundw
                    case rel => exact ⟨k + 1, φ6, by omega, by go_num, hok2, Lib.hid (((L23.out.trans L34.out).trans L45.out).trans L56.out), by rw [HNX.out]; dsimp only; rw [HPC.out]; exact hT⟩
                    case measure => (simp [intOf] <;> omega)
          · have hg0 : (0 : Int) < nf := by omega
            have HPC : Hid (pc + (if fl.length = 0 then 0 else 1) = pc + 1) := Lib.hid (by rw [hnf.out, if_neg hz])
            clear hz
            have y0 : w10.cell? ⟨b10, 0, none⟩ = some (.int .i64 pc) := hS10.out.k10.cell 0
            have y1 := hS10.out.k10.frz 0
            have hS11 := Lib.hid (hS10.out.putx (pc + 1))
            have x1' : (w10.setCell ⟨b10, 0, none⟩ (.int .i64 (pc + 1))).cell? ⟨bd, 1, none⟩ = some (.slice af nf cf) := (HC4.out φ5 L45.out _ hS11.out.inv.fz).cell 1
            have p0 : (w10.setCell ⟨b10, 0, none⟩ (.int .i64 (pc + 1))).cell? ⟨bp, 0, none⟩ = some (.slice a nr cap) := (HPP.out (w10.setCell ⟨b10, 0, none⟩ (.int .i64 (pc + 1))) (hS11.out.inv.fz.sub (((L23.out.trans L34.out)).trans L45.out))).1
            have p1 : (w10.setCell ⟨b10, 0, none⟩ (.int .i64 (pc + 1))).cell? ⟨bp, 1, none⟩ = some (.slice ae m ce) := (HPP.out (w10.setCell ⟨b10, 0, none⟩ (.int .i64 (pc + 1))) (hS11.out.inv.fz.sub (((L23.out.trans L34.out)).trans L45.out))).2
            have e4 : (w10.setCell ⟨b10, 0, none⟩ (.int .i64 (pc + 1))).cell? ⟨bl, ol + k, none⟩ = some (.slice a4 nr c4) := HL4.out φ5 L45.out (w10.setCell ⟨b10, 0, none⟩ (.int .i64 (pc + 1))) hS11.out.inv.fz
            have hSd : Hid (RtSt w φ φ5 b6 b10 g1 g2 m nr m nr (pc + 1) X1 X2 (World.drew (w10.setCell ⟨b10, 0, none⟩ (.int .i64 (pc + 1))))) := Lib.hid (hS11.out.callB (bdrewN (Below.refl ((w10.setCell ⟨b10, 0, none⟩ (.int .i64 (pc + 1)))).heap.size (w10.setCell ⟨b10, 0, none⟩ (.int .i64 (pc + 1)))) 1))
            obtain ⟨el, hel⟩ : ∃ el, Hid (failL es x nr m = el) := ⟨_, Lib.hid rfl⟩
            obtain ⟨ne, hne⟩ : ∃ ne, Hid (el.length = ne) := ⟨_, Lib.hid rfl⟩
            have HER : Hid (∀ i, i < ne → 0 ≤ el.getD i 0 ∧ el.getD i 0 < (m : Int)) := Lib.hid (fun i hi => by
              have hm : el.getD i 0 ∈ failL es x nr m := by rw [hel.out, getD_elem0 _ _ _ (by rw [hne.out]; exact hi)]; exact List.getElem_mem _
              exact failL_rng _ hm)
            have hne60 : ne ≤ 60 := by
              rw [← hne.out, ← hel.out]
              unfold failL
              rw [List.length_map]
              exact Nat.le_trans (Nat.le_trans (List.length_filter_le _ _) (by simp)) h60
            rw [hel.out] at HNX
            go_wp2
            go_region_held3 (fun w' => w'.cell? ⟨bp, 0, none⟩ = some (.slice a nr cap) ∧ w'.cell? ⟨bp, 1, none⟩ = some (.slice ae m ce) ∧ w'.cell? ⟨bl, ol + k, none⟩ = some (.slice a4 nr c4)) (first | exact ⟨p0, p1, e4⟩ | exact ⟨by assumption, by assumption, by assumption⟩) (first
              | ((with_reducible refine ((Rfailed_any nr a cap fs m ae ce es _ φ5 hSd.out.inv.fz (s.mono L05.out) (se.mono L05.out) OK.out a4 c4 x (S4.out.mono L45.out) hxl).mono (fun e w h => OwnPost.toN (k := ne) (by rw [hel.out]; exact hne.out) h)).mono ?_); rintro e w12 ⟨a12, c12, rfl, hi12, ho12⟩; obtain ⟨φ6, l6, i6, s12, _⟩ := ho12.release hi12; have hT12 := Lib.hid (hSd.out.call i6); have S12 : Hid (SlV φ6 a12 c12 el) := Lib.hid (by rw [← hel.out]; exact s12); have L56 := Lib.hid l6; have z0 := (HPP.out w12 (i6.fz.sub ((((L23.out.trans L34.out)).trans L45.out).trans l6))).1; have z1 := (HPP.out w12 (i6.fz.sub ((((L23.out.trans L34.out)).trans L45.out).trans l6))).2; have z2 := HL4.out φ6 (L45.out.trans l6) w12 i6.fz; clear hi12 ho12 l6 i6 s12))
            clear p0 p1 e4 z0 z1 z2 hSd
            go_wp2
            go_loopw [96] (fun jx wj => ∃ j : Nat, j ≤ ne ∧ jx = .int .i64 j ∧ Hid (RtSt w φ φ6 b6 b10 g1 g2 m nr m nr (pc + 1) (bumps X1 (el.take j)) X2 wj)) (fun jx _ => ne - (intOf jx).toNat)
            case atStart => exact ⟨0, Nat.zero_le _, rfl, hT12⟩
            case round =>
              clear hT12 hS11 hS10
              obtain ⟨i, hi, rfl, hU⟩ := hrel
              rename World => wi
              by_cases hil : i < ne
              · obtain ⟨bf, of, rfl, ff⟩ := S12.out.intsD hne hil
                have e1 := (ff i hil wi hU.out.inv.fz).2
                have hr := HER.out i hil
                have hbt := Lib.hid (bumps_take (l := X1) (by rw [hne.out]; exact hil))
                obtain ⟨v, hv⟩ : ∃ v : Nat, el.getD i 0 = (v : Int) := ⟨(el.getD i 0).toNat, by omega⟩
                rw [hv] at e1 hr hbt
                have hvn : v < m := by omega
                obtain ⟨_, hg, _, fo⟩ := hU.out.o1.intsD (n := m) (Lib.hid (by rw [bumps_len]; exact HRL.out.1)) hvn
                cases hg
                obtain ⟨t1, t2, t3⟩ := fo v hvn
                obtain ⟨u, hu⟩ : ∃ u, Hid ((bumps X1 (el.take i)).getD v 0 = u) := ⟨_, Lib.hid rfl⟩
                have hub : 0 ≤ u ∧ u ≤ 1000000 := by
                  have h := (HC2.out.2.2.1.bumps (el.take i)) v
                  rw [hu.out, List.length_take, Nat.min_eq_left (by rw [hne.out]; exact hi)] at h
                  omega
                rw [hu.out] at t1
                have hP := Lib.hid (hU.out.put1 (t3 (u + 1) w φ hU.out.inv).1 (t3 (u + 1) w φ hU.out.inv).2)
                have hbt2 : Hid ((bumps X1 (el.take i)).set v (u + 1) = bumps X1 (el.take (i + 1))) := Lib.hid (by rw [hbt.out, bump, Int.toNat_natCast, hu.out])
                rw [hbt2.out] at hP
                have e2 : wi.cell? ⟨b10, 1, none⟩ = some (.slice (some ⟨g1, 0, none⟩) m m) := hU.out.k10.cell 1
                have hub1 := hub.1
                have hub2 := hub.2
                clear ff fo t3 hr hv hub
                go_wp2
                go_roundw
                case rel => exact ⟨i + 1, by omega, by go_num, hP⟩
                case measure => (simp [intOf] <;> omega)
              · obtain rfl : i = ne := by omega
                rw [List.take_of_length_le (by rw [hne.out]; exact Nat.le_refl _)] at hU
                have x1 : wi.cell? ⟨bd, 1, none⟩ = some (.slice af nf cf) := (HC4.out φ6 (L45.out.trans L56.out) wi hU.out.inv.fz).cell 1
                go_wp2
                go_loopw [111] (fun jx wj => ∃ j : Nat, j ≤ nf ∧ jx = .int .i64 j ∧ Hid (RtSt w φ φ6 b6 b10 g1 g2 m nr m nr (pc + 1) (bumps X1 el) (bumps X2 (fl.take j)) wj)) (fun jx _ => nf - (intOf jx).toNat)
                case atStart => exact ⟨0, Nat.zero_le _, rfl, hU⟩
                case round =>
                  clear hU x1
                  obtain ⟨j, hj, rfl, hT⟩ := hrel
                  rename World => wj
                  by_cases hjl : j < nf
                  · obtain ⟨bf, of, rfl, ff⟩ := (S6.out.mono (L45.out.trans L56.out)).intsD hnf hjl
                    have e1 := (ff j hjl wj hT.out.inv.fz).2
                    have hr := HFR.out j hjl
                    have hbt := Lib.hid (bumps_take (l := X2) (by rw [hnf.out]; exact hjl))
                    obtain ⟨v, hv⟩ : ∃ v : Nat, fl.getD j 0 = (v : Int) := ⟨(fl.getD j 0).toNat, by omega⟩
                    rw [hv] at e1 hr hbt
                    have hvn : v < nr := by omega
                    obtain ⟨_, hg, _, fo⟩ := hT.out.o2.intsD (n := nr) (Lib.hid (by rw [bumps_len]; exact HRL.out.2)) hvn
                    cases hg
                    obtain ⟨t1, t2, t3⟩ := fo v hvn
                    obtain ⟨u, hu⟩ : ∃ u, Hid ((bumps X2 (fl.take j)).getD v 0 = u) := ⟨_, Lib.hid rfl⟩
                    have hub : 0 ≤ u ∧ u ≤ 100000 := by
                      have h := (HC2.out.2.2.2.bumps (fl.take j)) v
                      rw [hu.out, List.length_take, Nat.min_eq_left (by rw [hnf.out]; exact hj)] at h
                      omega
                    rw [hu.out] at t1
                    have hP := Lib.hid (hT.out.put2 (t3 (u + 1) w φ hT.out.inv).1 (t3 (u + 1) w φ hT.out.inv).2)
                    have hbt2 : Hid ((bumps X2 (fl.take j)).set v (u + 1) = bumps X2 (fl.take (j + 1))) := Lib.hid (by rw [hbt.out, bump, Int.toNat_natCast, hu.out])
                    rw [hbt2.out] at hP
                    have e2 : wj.cell? ⟨b10, 2, none⟩ = some (.slice (some ⟨g2, 0, none⟩) nr nr) := hT.out.k10.cell 2
                    have hub1 := hub.1
                    have hub2 := hub.2
                    clear ff fo t3 hr hv hub
                    go_wp2
                    go_roundw
                    case rel => exact ⟨j + 1, by omega, by go_num, hP⟩
                    case measure => (simp [intOf] <;> omega)
                  · obtain rfl : j = nf := by omega
                    rw [List.take_of_length_le (by rw [hnf.out]; exact Nat.le_refl _)] at hT
                    go_wp2
                    go_roundw
                    case rel => exact ⟨k + 1, φ6, by omega, by go_num, hok2, Lib.hid (((L23.out.trans L34.out).trans L45.out).trans L56.out), by rw [HNX.out]; dsimp only; rw [HPC.out]; exact hT⟩
                    case measure => (simp [intOf] <;> omega)
    · obtain rfl : k = nd := by omega
      have HF : Hid (F = 0) := Lib.hid (by rw [← HF2.out, scan_zero _ _ hok.out])
      have HO : Hid (r = rpK es n m l d k) := Lib.hid (by rw [HO.out, HF.out, if_pos rfl])
      have HLL := Lib.hid (rpK_len (es := es) (n := n) (m := m) (l := l) (d := d) k)
      generalize rpK es n m l d k = ps at *
      obtain ⟨pc, X1, X2⟩ := ps
      dsimp only at hS HLL
      have y0 : wr.cell? ⟨b10, 0, none⟩ = some (.int .i64 pc) := hS.out.k10.cell 0
      have y1 : wr.cell? ⟨b10, 1, none⟩ = some (.slice (some ⟨g1, 0, none⟩) m m) := hS.out.k10.cell 1
      have y2 : wr.cell? ⟨b10, 2, none⟩ = some (.slice (some ⟨g2, 0, none⟩) n n) := hS.out.k10.cell 2
      obtain ⟨φ6, i6, r1, r2, n6⟩ := hS.out.release
      have R1 := Lib.hid r1
      have R2 := Lib.hid r2
      have HI6 := Lib.hid i6
      have N6 := Lib.hid n6
      clear i6 r1 r2 n6
      have z0 : _ = some (Value.int .i64 0) := hS.out.k6.cell 0
      have z1 : _ = some (Value.slice none 0 0) := hS.out.k6.cell 1
      have z2 : _ = some (Value.slice none 0 0) := hS.out.k6.cell 2
      have x0 := hS.out.k6.frz 0
      have x1 := hS.out.k6.frz 1
      have x2 := hS.out.k6.frz 2
      have hIZ := Lib.hid (((HI6.out.setCell hS.out.l6 N6.out (off := 0) (Value.int .i64 pc)).setCell hS.out.l6 N6.out (off := 1) (Value.slice (some ⟨g1, 0, none⟩) m m)).setCell hS.out.l6 N6.out (off := 2) (Value.slice (some ⟨g2, 0, none⟩) n n))
      have hBZ := Lib.hid (((hS.out.k6.set 0 (Value.int .i64 pc)).set 1 (Value.slice (some ⟨g1, 0, none⟩) m m)).set 2 (Value.slice (some ⟨g2, 0, none⟩) n n))
      go_wp2
      have e0 : _ = some (Value.int .i64 pc) := hBZ.out.cell 0
      have e1 : _ = some (Value.slice (some ⟨g1, 0, none⟩) m m) := hBZ.out.cell 1
      have e2 : _ = some (Value.slice (some ⟨g2, 0, none⟩) n n) := hBZ.out.cell 2
      (try simp only [Exit.inBlock, Exit.then])
      refine bodyPost_ret (v := .tuple #[.agg #[(Value.int .i64 pc), (Value.slice (some ⟨g1, 0, none⟩) m m), (Value.slice (some ⟨g2, 0, none⟩) n n)], .int .i64 0]) (by simp [results, Tryd.results11, go_sem, e0, e1, e2]) rfl ?_
      obtain rfl := HF.out
      obtain rfl := HO.out
      exact ⟨_, _, m, _, _, n, _, rfl, hIZ.out, R1.out, R2.out, HLL.out.1, HLL.out.2⟩
end Go.Proofs.YtkfmadeeobalaaaDoor
