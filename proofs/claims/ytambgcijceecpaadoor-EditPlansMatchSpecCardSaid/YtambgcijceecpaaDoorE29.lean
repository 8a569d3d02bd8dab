/- The walk of needed. Conditions: none beyond what the claim form gives. -/
import Derived.Test.YtambgcijceecpaaDoorE26
import Derived.Test.YtambgcijceecpaaDoorE28
namespace Go.Proofs.YtambgcijceecpaaDoor
open Go.RowKit
set_option linter.unusedVariables false
/-- A block that is never written again may be frozen where it lies. -/
theorem Inv.frzAt {B : Nat} {w0 w : World} {φ0 φ : Phi} (hi : Inv B w0 φ0 φ w) {g : Nat} {cs : Array Value} {T : TypeId} (hk : Blk w g cs T) (hg : B ≤ g) : ∃ φ', φ.le φ' ∧ Inv B w0 φ0 φ' w ∧ φ' g = some (.cells cs T) ∧ (∀ b, b ≠ g → φ' b = φ b) := by
  have hle : φ.le (φ.upd g (.cells cs T)) := by
    intro b o hb
    unfold Phi.upd
    split
    · next e => subst e; have h1 := hi.fz _ _ hb; unfold Blk at hk; rw [hk] at h1; exact h1
    · exact hb
  refine ⟨φ.upd g (.cells cs T), hle, ⟨hi.bel, hi.base, hi.fz.upd hk, hi.le.trans hle, fun b hb => ?_⟩, by unfold Phi.upd; rw [if_pos rfl], fun b hb => by unfold Phi.upd; rw [if_neg hb]⟩
  unfold Phi.upd
  rw [if_neg (by omega)]
  exact hi.new b hb
theorem slHd : SliceTy Tryd.prog 40 26 (.slice none 0 0) (Rep.size Hdr) 24 := slLL
theorem foldU_runsL (fs : List Fld) (es : List Edt) (n m : Nat) : foldU (runsV es n m) (comps fs (List.replicate n true) n 0 (List.replicate n 0)) [] = (runsL fs es n m, false) := by
  have h := foldU_runs (es := es) (n := n) (m := m) (allR fs n) []
  rw [List.nil_append] at h
  exact h
theorem runsL_len {fs : List Fld} {es : List Edt} {n m : Nat} (h : prodK fs n ≤ 20000) : (runsL fs es n m).length ≤ 20000 := by
  unfold runsL recsR
  rw [List.length_map]
  refine Nat.le_trans (List.length_filter_le _ _) ?_
  rw [← allQ_all, allQ_len]; exact h
theorem runsV_cnt {es : List Edt} {n m : Nat} (x : List Int) (s : List (List Int)) : (runsV es n m x s).1.length ≤ s.length + 1 := by
  unfold runsV
  dsimp only
  split
  · omega
  · simp
set_option maxRecDepth 100000 in
set_option maxHeartbeats 4000000 in
theorem needed_w
  {φ : Phi} {br : Nat} {fs : List Fld} {es : List Edt} {n m : Nat} {a : Option Addr} {cap : Nat} {ae : Option Addr} {ce : Nat} {ab : Option Addr} {cb : Nat} (R : RulV φ br fs es n m a cap ae ce ab cb)
    (w : World) (hφ : Fz φ w) {l : List Int} (hl : Hid (keptL fs es n m m = l)) :
    Calls Tryd.prog 41 #[.pointer (some ⟨br, 0, none⟩)] w (NeedPost l φ w) := by
  have hn12 := R.ok.pos
  have hm60 := R.ok.cnt
  have hmix := Lib.hid R.ok.mix
  have hq : Hid (foldU (runsV es n m) (comps fs (List.replicate n true) n 0 (List.replicate n 0)) [] = (runsL fs es n m, false)) := Lib.hid (foldU_runsL fs es n m)
  go_enter Tryd.func41, Tryd.ntmps41
  go_wp2_with fail
  have K1 := Lib.hid ((Blk.newAt w #[.pointer (some ⟨br, 0, none⟩)] 54 rfl).alloc (.cells #[.slice none 0 0] 40))
  have K2 := Lib.hid (Blk.newAt (w.alloc (.cells #[.pointer (some ⟨br, 0, none⟩)] 54)) #[.slice none 0 0] 40 (k := w.heap.size + 1) (alloc_size _ _))
  have HI := Lib.hid (((Inv.start hφ).alloc (.cells #[.pointer (some ⟨br, 0, none⟩)] 54)).alloc (.cells #[.slice none 0 0] 40))
  have HN := Lib.hid (fun b (h : w.heap.size ≤ b) => hφ.new_none h)
  generalize ((w.alloc (.cells #[.pointer (some ⟨br, 0, none⟩)] 54)).alloc (.cells #[.slice none 0 0] 40)) = W at *
  have hWs := Lib.hid K2.out.lt
  generalize hb1 : w.heap.size = b1 at *
  have l12 : b1 < b1 + 1 := by omega
  generalize hb2 : b1 + 1 = b2 at *
  replace hb1 := Lib.hid hb1
  clear hb2
  refine (all_needed R (J := fun g φ2 s w' => NeJ b1 w φ2 br g b1 b2 s w' ∧ SubP b1 φ φ2) (V := runsV es n m) (B := b1) (w0 := w) W [] HI.out.size HI.out.fz ?h0 (cnt := List.length) (Bd := 20000) ?hcnt ?hbd (fun g φ2 s w h => h.1.h.inv) (fun g φ2 s w k v h => ⟨h.1.row k v, h.2⟩) ?hV hq).mono ?_
  case hcnt => exact fun x s => runsV_cnt x s
  case hbd =>
    show 0 + (allR fs n).length ≤ 20000
    rw [← allQ_all, allQ_len]; have := hmix.out; omega
  case h0 =>
    intro g φ2 w' hle hi hg hgl hgn
    have ws := hWs.out
    have hn : ∀ b, b1 ≤ b → b < W.heap.size → φ2 b = none := fun b h1 h2 => (hi.new b h2).trans (HN.out b h1)
    exact ⟨⟨HoldL.start ((HI.out.call hi).toSelf) (K2.out.callB hi.bel) hgn (hn b2 (by omega) ws) (by omega) (by omega) hgl, K1.out.callB hi.bel, l12⟩, hle, fun b hb => hi.new b (by omega)⟩
  case hV =>
    intro g c φ2 hle x s w' hlt hx hJ hO
    refine (needed1_any (R.mono hle) x s (by omega) w' hx hJ.1 hO).mono ?_
    rintro e w2 ⟨h1, h2, h3⟩
    exact ⟨h1, ⟨h2, hJ.2⟩, h3⟩
  rintro e w6 ⟨rfl, g, φ2, _, hJ, hle⟩
  dsimp only at hJ
  obtain ⟨φ3, a6, c6, l3, i3, s3, k3⟩ := hJ.h.out
  obtain ⟨φ4, l4, i4, p4, _⟩ := (i3.sub2 hle).frzAt hJ.k (Nat.le_refl _)
  obtain ⟨φ5, l5, i5, p5, _⟩ := i4.frzAt k3 (by omega)
  have P1 := Lib.hid (l5 _ _ p4)
  have P2 := Lib.hid p5
  have S5 := Lib.hid ((s3.mono l4).mono l5)
  have I5 := Lib.hid i5
  have R5 := R.mono i5.le
  have hrl := runsL_len (fs := fs) (es := es) (n := n) (m := m) hmix.out
  clear hJ hle l3 i3 s3 k3 l4 i4 p4 l5 i5 p5 hq K1 K2 HN hWs HI
  generalize hrs : runsL fs es n m = rs at *
  replace hrs := Lib.hid hrs
  obtain ⟨N, hN⟩ : ∃ N, Hid (rs.length = N) := ⟨_, Lib.hid rfl⟩
  rw [hN.out] at P2 hrl
  have y2 : w6.cell? ⟨b2, 0, none⟩ = some (.slice a6 N c6) := (I5.out.fz.blk P2.out).cell 0
  go_wp2_with (first
    | (at_make
       refine wpList_mkn (α := Int) rfl _ _ 26 rfl slI I5.out.toSelf _ _ N 0 (fun _ => rfl) rfl rfl rfl (by omega) ?_
       intro w7 hi7 ho7 hg7
       obtain ⟨φ6, l6, i6, p6, f6⟩ := (hi7.alloc (.cells #[.slice (some ⟨w6.heap.size, 0, none⟩) N N] 26)).frzAt (Blk.new w7 #[.slice (some ⟨w6.heap.size, 0, none⟩) N N] 26) (by have := hi7.size; omega)
       have y1 : (w7.alloc (.cells #[.slice (some ⟨w6.heap.size, 0, none⟩) N N] 26)).cell? ⟨b1, 0, none⟩ = some (.pointer (some ⟨br, 0, none⟩)) := (i6.fz.blk (l6 _ _ P1.out)).cell 0
       have y3 : (w7.alloc (.cells #[.slice (some ⟨w6.heap.size, 0, none⟩) N N] 26)).cell? ⟨br, 2, none⟩ = some (.slice ab m cb) := ((R5.mono l6).blk i6.fz).cell 2
       have O6 := Lib.hid ((ho7.alloc (.cells #[.slice (some ⟨w6.heap.size, 0, none⟩) N N] 26)).toPhi l6 (fun x hx => by cases hx; exact f6 _ (by have h : w6.heap.size < w7.heap.size := (ho7.lt _ rfl).2; show w6.heap.size ≠ w7.heap.size; omega)))
       have I6 := Lib.hid i6
       have P4 := Lib.hid p6
       have P1' := Lib.hid (l6 _ _ P1.out)
       have P2' := Lib.hid (l6 _ _ P2.out)
       have S6 := Lib.hid (S5.out.mono l6)
       have R6 := R5.mono l6
       have HLE := Lib.hid (I5.out.le.trans l6)
       have HNW := Lib.hid (fun b (hb : b < b1) => (i6.new b hb).trans (I5.out.new b hb))
       clear hi7 ho7 hg7 l6 i6 p6 f6 y2 P1 P2 S5 I5 R5)
    | (at_make
       refine wpList_mkn (α := Hdr) rfl _ _ 40 rfl slHd I6.out.toSelf _ _ m hdr0 (fun _ => rfl) rfl rfl rfl (by omega) ?_
       intro w9 hi9 ho9 hg9
       have y4 : w9.cell? ⟨b2, 0, none⟩ = some (.slice a6 N c6) := (hi9.fz.blk P2'.out).cell 0
       have y5 : w9.cell? ⟨w7.heap.size, 0, none⟩ = some (.slice (some ⟨w6.heap.size, 0, none⟩) N N) := (hi9.fz.blk P4.out).cell 0))
  rw [alloc_size] at ho9
  have HS : Hid (OfSt b1 w φ6 (some ⟨w6.heap.size, 0, none⟩) N (lensK rs 0) (some ⟨w7.heap.size + 1, 0, none⟩) m (List.replicate m hdr0) m (ofL rs 0) w9) := Lib.hid (by
    have h := OfSt.start (m := m) hi9 (O6.out.other hg9 (fun x hx q => by cases q)) ho9 (fun x y hx hy => by
      cases hx; cases hy
      have h : w6.heap.size < (w7.alloc (.cells #[.slice (some ⟨w6.heap.size, 0, none⟩) N N] 26)).heap.size := (O6.out.lt _ rfl).2
      rw [alloc_size] at h
      show w6.heap.size ≠ w7.heap.size + 1
      omega)
    rw [lensK_zero, hN.out]
    exact h)
  clear hi9 ho9 hg9 O6 y1 y3 I6
  generalize w6.heap.size = bc at *
  generalize w7.heap.size = b4 at *
  generalize b4 + 1 = bh at *
  go_loopw [28] (fun i wr => ∃ (k : Nat) (hs : List Hdr), k ≤ N ∧ i = .int .i64 k ∧ Hid (OfSt b1 w φ6 (some ⟨bc, 0, none⟩) N (lensK rs k) (some ⟨bh, 0, none⟩) m hs m (ofL rs k) wr)) (fun i _ => N - (intOf i).toNat)
  case atStart => exact ⟨0, _, Nat.zero_le _, rfl, HS⟩
  case round =>
    clear HS y4 y5
    obtain ⟨k, hs, hk, rfl, hS⟩ := hrel
    have y5 : wr.cell? ⟨b4, 0, none⟩ = some (.slice (some ⟨bc, 0, none⟩) N N) := (hS.out.inv.fz.blk P4.out).cell 0
    by_cases hlt : k < N
    · have HR : Hid ((rs.getD k []).Nodup ∧ (∀ x ∈ rs.getD k [], 0 ≤ x ∧ x < (m : Int)) ∧ (rs.getD k []).length ≤ m) := Lib.hid (by
        rw [← hrs.out, runsL_at (by rw [hrs.out, hN.out]; exact hlt)]
        exact ⟨failL_nodup _ _ _ _, failL_rng, failL_len _ _ _ _⟩)
      obtain ⟨bq, oq, rfl, f1⟩ := S6.out.lists hN hlt
      obtain ⟨a7, c7, s7, f1⟩ := f1 k hlt
      have d1 := (f1 wr hS.out.inv.fz).2
      obtain ⟨gc, hgc, hgl, fC⟩ := hS.out.oc.intsD (n := N) (Lib.hid ((lensK_len rs k).trans hN.out)) hlt
      cases hgc
      obtain ⟨dc0, dc, hset⟩ := fC k hlt
      have HST : Hid (OfSt b1 w φ6 (some ⟨bc, 0, none⟩) N (lensK rs (k + 1)) (some ⟨bh, 0, none⟩) m hs m (ofJ rs k 0) (wr.setCell ⟨bc, k, none⟩ (.int .i64 ((rs.getD k []).length : Int)))) := Lib.hid (by
        obtain ⟨q1, q2⟩ := hset ((rs.getD k []).length : Int) w φ6 hS.out.inv
        rw [lensK_step (by rw [hN.out]; exact hlt)] at q1
        exact (hS.out.setc _ q2 q1).congr (fun e _ => ofJ_zero rs k e))
      obtain ⟨r, hr⟩ : ∃ r, Hid (rs.getD k [] = r) := ⟨_, Lib.hid rfl⟩
      rw [hr.out] at HR s7 d1 HST
      obtain ⟨nl, hnl⟩ : ∃ j, Hid (r.length = j) := ⟨_, Lib.hid rfl⟩
      rw [hnl.out] at HR d1 HST
      have hnm := HR.out.2.2
      clear f1 fC hset hS
      go_wp2
      clear d1 dc dc0 y5
      generalize (wr.setCell ⟨bc, k, none⟩ (.int .i64 (nl : Int))) = wA at *
      go_loopw [40] (fun i wr => ∃ (j : Nat) (hs : List Hdr), j ≤ nl ∧ i = .int .i64 j ∧ Hid (OfSt b1 w φ6 (some ⟨bc, 0, none⟩) N (lensK rs (k + 1)) (some ⟨bh, 0, none⟩) m hs m (ofJ rs k j) wr)) (fun i _ => nl - (intOf i).toNat)
      case atStart => exact ⟨0, hs, Nat.zero_le _, rfl, HST⟩
      case round =>
        clear HST
        obtain ⟨j, hs, hj, rfl, hS⟩ := hrel
        by_cases hjl : j < nl
        · obtain ⟨bw, ow, ha7, f2⟩ := s7.intsD hnl hjl
          have d2 := (f2 j hjl wr hS.out.inv.fz).2
          subst ha7
          clear f2
          have hri := HR.out.2.1 (r.getD j 0) (by rw [getD_elem0 _ _ _ (by rw [hnl.out]; exact hjl)]; exact List.getElem_mem _)
          obtain ⟨i, hi⟩ : ∃ i : Nat, r.getD j 0 = i := ⟨(r.getD j 0).toNat, by omega⟩
          rw [hi] at d2 hri
          have him : i < m := by omega
          have HSTEP := Lib.hid (fun e => ofJ_step (runs := rs) (k := k) (j := j) (i := i) (nl := nl) (by rw [hr.out]; exact HR.out.1) (by rw [hr.out]; exact hnl.out) hjl (by rw [hr.out]; exact hi) e)
          obtain ⟨gh, hgh, _, _, _, dh, fh, _⟩ := hS.out.oh.hdrD (Lib.hid hS.out.hl) him
          cases hgh
          obtain ⟨orow, nrow⟩ := hS.out.row i him
          rw [nrow] at dh
          have hlen := ofJ_len (runs := rs) (k := k) (j := j) (e := i)
          have OR := Lib.hid orow
          have hin := Lib.hid hS.out.inv
          have hlH := Lib.hid hlen
          have hi := Lib.hid hi
          clear orow nrow hlen fh hri
          have hin8 : i < 9223372036854775807 := by omega
          go_wp2_with (at_builtin
                       refine wpList_app1F (α := Int) rfl _ _ 26 rfl slI hin.out _ _ (ofJ rs k j i) OR.out _ _ (k : Int) rfl rfl 1 rfl (by have := hlH.out; omega) ?_
                       intro a8 c8 w8 hi8 ho8 hg8 hf8
                       obtain ⟨gh, hgh, _, _, _, dh8, fh8, _⟩ := (hS.out.ohw him hg8).hdrD (Lib.hid hS.out.hl) him
                       cases hgh)
          go_roundw
          case rel => exact ⟨j + 1, hs.set i ⟨a8, (ofJ rs k j i).length + 1, c8⟩, by omega, by go_num, Lib.hid ((hS.out.put him hi8 ho8 (by simp) hg8 hf8).congr (fun e he => HSTEP.out e))⟩
          case measure => simp [intOf]; omega
        · obtain rfl : j = nl := by omega
          have HS2 : Hid (OfSt b1 w φ6 (some ⟨bc, 0, none⟩) N (lensK rs (k + 1)) (some ⟨bh, 0, none⟩) m hs m (ofL rs (k + 1)) wr) := Lib.hid (hS.out.congr (fun e _ => (ofJ_all rs k e (by rw [hr.out]; exact hnl.out)).symm))
          clear hS
          go_wp2
          go_roundw
          case rel => exact ⟨k + 1, hs, by omega, by go_num, HS2⟩
          case measure => simp [intOf]; omega
    · obtain rfl : k = N := by omega
      obtain ⟨φ7, l7, i7, oc7, s7⟩ := hS.out.rel
      have y1 : wr.cell? ⟨b1, 0, none⟩ = some (.pointer (some ⟨br, 0, none⟩)) := (hS.out.inv.fz.blk P1'.out).cell 0
      have y3 : wr.cell? ⟨br, 2, none⟩ = some (.slice ab m cb) := (R6.blk hS.out.inv.fz).cell 2
      have hc0 : lensK rs k = cntL fs es n m 0 := by rw [← hN.out, ← hrs.out]; exact lensK_all fs es n m
      rw [hc0] at oc7
      have HW : Hid (Ow2 w φ7 3 3 (some ⟨bc, 0, none⟩) k (cntL fs es n m 0) none 0 (keptL fs es n m 0) wr) := Lib.hid ⟨by rw [hb1.out]; exact i7.toSelf, by rw [hb1.out]; exact oc7, Own.nil _ _ _ _, fun _ _ _ h => by cases h⟩
      have P4' := Lib.hid (l7 _ _ P4.out)
      have S7 := Lib.hid s7
      have HLE2 := Lib.hid (HLE.out.trans l7)
      have HNW2 := Lib.hid (fun b (hb : b < b1) => (i7.new b hb).trans (HNW.out b hb))
      have HLR : Hid (((List.range m).map (ofL rs k)).length = m) := Lib.hid (by simp)
      clear hS l7 i7 oc7 s7 hc0 P4 S6 HLE HNW y5
      go_wp2
      clear y1 y3
      obtain ⟨N, rfl⟩ : ∃ N, N = k := ⟨k, rfl⟩
      go_loopw [10, 61] (fun v i wr => ∃ (k : Nat) (ao : Option Addr) (co : Nat), k ≤ m ∧ v = .slice ao (keptL fs es n m k).length co ∧ i = .int .i64 k ∧ Hid (Ow2 w φ7 3 3 (some ⟨bc, 0, none⟩) N (cntL fs es n m k) ao co (keptL fs es n m k) wr)) (fun _ i _ => m - (intOf i).toNat)
      case atStart => exact ⟨0, none, 0, Nat.zero_le _, rfl, rfl, HW⟩
      case round =>
        clear HW
        obtain ⟨k, ao, co, hk, rfl, rfl, hS⟩ := hrel
        by_cases hlt : k < m
        · obtain ⟨b, hb⟩ : ∃ b, needB fs es n m (leftK fs es n m k) k = b := ⟨_, rfl⟩
          have hkl := Lib.hid (keptL_len (fs := fs) (es := es) (n := n) (m := m) (k := k))
          obtain ⟨bq, oq, hq, f1⟩ := S7.out.lists HLR hlt
          cases hq
          obtain ⟨aL, cL, sL, f1⟩ := f1 k hlt
          have d1 := (f1 wr hS.out.inv.fz).2
          have e : ((List.range m).map (ofL rs N)).getD k [] = ofL rs N k := by rw [getD_map0 _ _ _ 0 (by simpa using hlt), getD_range0 hlt]
          rw [e] at sL d1
          rw [Nat.zero_add] at d1
          have HB : Hid ((ofL rs N k).any (fun x => decide ((cntL fs es n m k).getD x.toNat 0 = 1)) = b) := Lib.hid (by
            rw [← hb, ← need_ofL hlt, hrs.out, hN.out])
          have HD : Hid (b = false → decF (ofL rs N k) (cntL fs es n m k) = cntL fs es n m (k + 1)) := Lib.hid (fun h => by
            have := decF_cnt hlt (hb.trans h)
            rw [hrs.out, hN.out] at this
            exact this)
          have HRG : Hid (∀ j q, -1 ≤ (decF ((ofL rs N k).take j) (cntL fs es n m k)).getD q 0 ∧ (decF ((ofL rs N k).take j) (cntL fs es n m k)).getD q 0 ≤ (m : Int)) := Lib.hid (fun j q => by
            have := dec_rng (fs := fs) (es := es) (n := n) (m := m) (i := k) (e := k) j q
            rw [hrs.out, hN.out] at this
            exact this)
          have HL : Hid (∀ x ∈ ofL rs N k, 0 ≤ x ∧ x < (N : Int)) := Lib.hid ofL_rng
          have HLL : Hid ((ofL rs N k).length ≤ N) := Lib.hid ofL_len
          have hcl : Hid ((cntL fs es n m k).length = N) := Lib.hid ((cntL_len fs es n m k).trans (by rw [hrs.out, hN.out]))
          obtain ⟨L, hL⟩ : ∃ L, Hid (ofL rs N k = L) := ⟨_, Lib.hid rfl⟩
          rw [hL.out] at sL d1 HB HD HRG HL HLL
          obtain ⟨nL, hnL⟩ : ∃ j, Hid (L.length = j) := ⟨_, Lib.hid rfl⟩
          rw [hnL.out] at d1 HLL
          have hnLN := HLL.out
          obtain ⟨φ8, l8, i8, s8, _⟩ := hS.out.o1.release hS.out.inv
          have C := Lib.hid (ContainsFunc_any (w := wr) i8.fz (l8 _ _ P4'.out) s8 hcl (sL.mono l8) hnL HL HB)
          clear f1 e l8 i8 s8
          cases b with
          | true =>
            have H2 := Lib.hid (keptL_t hb)
            have H3 := Lib.hid (cntL_keep hb)
            have hin := Lib.hid hS.out.inv
            have hon := Lib.hid hS.out.o2
            clear hb
            go_wp2_with (first
              | (go_at_call 74; refine C.out.mono ?_; rintro e w5 ⟨rfl, rfl⟩)
              | (at_builtin; (refine wpList_app1F (α := Int) rfl _ _ 26 rfl slI hin.out ao co _ hon.out _ _ (k : Int) rfl rfl 1 rfl (by have := hkl.out; omega) ?_; intro a8 c8 w8 hi8 ho8 hg8 hf8)))
            go_roundw
            case rel => exact ⟨k + 1, a8, c8, by omega, by rw [H2.out, List.length_append]; rfl, by go_num, by rw [H2.out, H3.out]; exact Lib.hid (((hS.out.alloc _).swap.step1 hi8 ho8 hg8 hf8).swap)⟩
            case measure => simp [intOf]; omega
          | false =>
            have H2 := Lib.hid (keptL_f hb)
            have H3 := Lib.hid (HD.out rfl)
            have HS0 : Hid (Ow2 w φ7 3 3 (some ⟨bc, 0, none⟩) N (decF (L.take 0) (cntL fs es n m k)) ao co (keptL fs es n m k) wr) := Lib.hid (by rw [List.take_zero]; exact hS.out)
            clear hb HD hS
            go_wp2_with (go_at_call 74; refine C.out.mono ?_; rintro e w5 ⟨rfl, rfl⟩)
            clear C d1
            go_loopw [79] (fun i wr => ∃ (j : Nat), j ≤ nL ∧ i = .int .i64 j ∧ Hid (Ow2 w φ7 3 3 (some ⟨bc, 0, none⟩) N (decF (L.take j) (cntL fs es n m k)) ao co (keptL fs es n m k) wr)) (fun i _ => nL - (intOf i).toNat)
            case atStart => exact ⟨0, Nat.zero_le _, rfl, HS0⟩
            case round =>
              clear HS0
              obtain ⟨j, hj, rfl, hS⟩ := hrel
              by_cases hjl : j < nL
              · obtain ⟨bw, ow, haL, f2⟩ := sL.intsD hnL hjl
                have d2 := (f2 j hjl wr hS.out.inv.fz).2
                subst haL
                clear f2
                have y5 : wr.cell? ⟨b4, 0, none⟩ = some (.slice (some ⟨bc, 0, none⟩) N N) := (hS.out.inv.fz.blk P4'.out).cell 0
                have hri := HL.out (L.getD j 0) (by rw [getD_elem0 _ _ _ (by rw [hnL.out]; exact hjl)]; exact List.getElem_mem _)
                have HT := Lib.hid (take_snocD 0 L j nL hnL.out hjl)
                obtain ⟨q, hq⟩ : ∃ q : Nat, L.getD j 0 = q := ⟨(L.getD j 0).toNat, by omega⟩
                rw [hq] at d2 hri HT
                have hqN : q < N := by omega
                have HT2 : Hid (decF (L.take (j + 1)) (cntL fs es n m k) = (decF (L.take j) (cntL fs es n m k)).set q ((decF (L.take j) (cntL fs es n m k)).getD q 0 - 1)) := Lib.hid (by
                  rw [HT.out, decF_snoc, show ((q : Int)).toNat = q by omega])
                have hv := HRG.out j q
                obtain ⟨gc, hgc, hgl, fC⟩ := hS.out.o1.intsD (n := N) (Lib.hid ((decF_len _ _).trans hcl.out)) hqN
                cases hgc
                obtain ⟨dc0, dc, hset⟩ := fC q hqN
                obtain ⟨v, hvv⟩ : ∃ v, Hid ((decF (L.take j) (cntL fs es n m k)).getD q 0 = v) := ⟨_, Lib.hid rfl⟩
                rw [hvv.out] at dc0 hv HT2
                have HST := Lib.hid (hS.out.put1 (hset (v - 1) w φ7 hS.out.inv).1 (hset (v - 1) w φ7 hS.out.inv).2)
                have hq := Lib.hid hq
                clear fC hset hS hri
                go_wp2
                go_roundw
                case rel => exact ⟨j + 1, by omega, by go_num, by rw [HT2.out]; exact HST⟩
                case measure => simp [intOf]; omega
              · obtain rfl : j = nL := by omega
                have HS1 : Hid (Ow2 w φ7 3 3 (some ⟨bc, 0, none⟩) N (cntL fs es n m (k + 1)) ao co (keptL fs es n m (k + 1)) wr) := Lib.hid (by
                  have h := hS.out
                  rw [← hnL.out, List.take_length, H3.out] at h
                  rw [H2.out]; exact h)
                clear hS
                go_wp2
                go_roundw
                case rel => exact ⟨k + 1, ao, co, by omega, by rw [H2.out], by go_num, HS1⟩
                case measure => simp [intOf]; omega
        · obtain rfl : k = m := by omega
          obtain ⟨φ9, l9, i9, s9, _⟩ := hS.out.o2.release hS.out.inv
          have HI9 := Lib.hid i9
          have S9 := Lib.hid s9
          clear l9 i9 s9 hS
          go_wp2
          go_ret
          obtain rfl := hl.out
          exact ⟨φ9, ao, co, rfl, HI9.out.cat' HLE2.out (by rw [hb1.out]; exact HNW2.out), S9.out⟩
theorem needed_any : NeedC := by
  intro φ br fs es n m a cap ae ce ab cb R w hφ l hl
  exact needed_w R w hφ hl
end Go.Proofs.YtambgcijceecpaaDoor
