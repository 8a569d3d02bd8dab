/- The walks of the reference's Impute and of the law EditImputesMatchSpec. Conditions: the library's table of blanks reads as it was laid. -/
import Derived.Test.YtambgcijceecpaaDoorI5
import Derived.Test.YtambgcijceecpaaDoorPl
namespace Go.Proofs.YtambgcijceecpaaDoor
open Go.RowKit
set_option linter.unusedVariables false
set_option maxRecDepth 100000 in
set_option maxHeartbeats 2000000 in
theorem RImpute_any
  (n : Nat) (a : Option Addr) (cap : Nat) (fs : List Fld) (m : Nat) (ae : Option Addr) (ce : Nat) (es : List Edt) (w : World) (φ : Phi) (hφ : Fz φ w) (ht : TabP φ) (s : SlV φ a cap fs) (hn : Hid (fs.length = n)) (hm : n ≤ 9223372036854775807) (hg : Hid (∀ x ∈ fs, FldG x)) (se : SlV φ ae ce es) (hne : Hid (es.length = m)) (hme : m ≤ 9223372036854775807) (hge : Hid (∀ x ∈ es, EdtG x))
      (nr : Nat) (a2 : Option Addr) (c2 : Nat) (rec : List Int) (sr : SlV φ a2 c2 rec) (hrl : Hid (rec.length = nr)) (hmr : nr ≤ 9223372036854775807)
      (nd : Nat) (ad : Option Addr) (cd : Nat) (ds : List (List Int)) (sd : SlV φ ad cd ds) (hdl : Hid (ds.length = nd)) (hmd : nd ≤ 9223372036854775807) (seed : ByteArray) (hsd : seed.size ≤ reachBytes)
    {F : Int} (hF : Hid (withF fs es rec = F)) {r : Rpr} {G : Int} (hq : Hid (impuR fs es rec ds seed F = (r, G))) :
    Calls Tryd.prog 23 #[.agg #[.slice a n cap, .slice ae m ce], .slice a2 nr c2, .slice ad nd cd, .string seed] w (RprPost r G φ w) := by
  obtain ⟨φ1, le1, i1, k1⟩ := (Inv.start hφ).frz (.cells #[.slice a n cap, .slice ae m ce] 25)
  have hRS := Lib.hid (ResSt.start i1 #[.slice none 0 0, .slice none 0 0, .int .i64 0] 42)
  rw [alloc_size] at hRS
  have K1 := Lib.hid k1
  have LE1 := Lib.hid le1
  have HBX := Lib.hid (fun (φ' : Phi) (h : φ1.le φ') (w' : World) (hf : Fz φ' w') => (hf.blk (h _ _ k1)))
  have hTT := Lib.hid (ht.mono le1)
  obtain ⟨lf0, hlf0⟩ : ∃ l, Hid (failsR fs es rec F = l) := ⟨_, Lib.hid rfl⟩
  clear i1 k1 le1 ht
  unfold reachBytes at hsd
  have p0 : ((w.alloc (.cells #[.slice a n cap, .slice ae m ce] 25)).alloc (.cells #[.slice none 0 0, .slice none 0 0, .int .i64 0] 42)).cell? ⟨w.heap.size, 0, none⟩ = some (.slice a n cap) := (hRS.out.inv.fz.blk K1.out).cell 0
  have p1 : ((w.alloc (.cells #[.slice a n cap, .slice ae m ce] 25)).alloc (.cells #[.slice none 0 0, .slice none 0 0, .int .i64 0] 42)).cell? ⟨w.heap.size, 1, none⟩ = some (.slice ae m ce) := (hRS.out.inv.fz.blk K1.out).cell 1
  have C0 := Lib.hid (RFails_any n a cap fs m ae ce es ((w.alloc (.cells #[.slice a n cap, .slice ae m ce] 25)).alloc (.cells #[.slice none 0 0, .slice none 0 0, .int .i64 0] 42)) φ1 hRS.out.inv.fz hTT.out (s.mono LE1.out) hn hm hg (se.mono LE1.out) hne hme hge nr a2 c2 rec (sr.mono LE1.out) hrl hmr hF hlf0)
  go_enter Tryd.func23, Tryd.ntmps23
  go_wp2_with fail
  clear p0 p1
  generalize hbp : w.heap.size = bp at *
  replace hbp := Lib.hid hbp
  refine C0.out.mono ?_
  rintro e w1 ⟨φ2, a5, c5, rfl, hi1, _⟩
  have H1 := Lib.hid (hRS.out.call hi1)
  have L12 := Lib.hid hi1.le
  clear hi1 hRS C0
  generalize bp + 1 = b8 at *
  by_cases hf : F = 0
  case neg =>
    have hff : (F != 0) = true := by simp [hf]
    have HQ : Hid ((([], [], 0), F) = (r, G)) := Lib.hid (by rw [← hq.out, impuR, if_pos hf])
    clear hf
    have z0 : _ = some (Value.slice none 0 0) := H1.out.k.cell 0
    have z1 : _ = some (Value.slice none 0 0) := H1.out.k.cell 1
    have z2 : _ = some (Value.int .i64 0) := H1.out.k.cell 2
    have x0 := H1.out.k.frz 0
    have x1 := H1.out.k.frz 1
    have x2 := H1.out.k.frz 2
    have hIZ := Lib.hid (((H1.out.inv.setCell H1.out.l H1.out.f (off := 0) (Value.slice none 0 0)).setCell H1.out.l H1.out.f (off := 1) (Value.slice none 0 0)).setCell H1.out.l H1.out.f (off := 2) (Value.int .i64 0))
    have hBZ := Lib.hid (((H1.out.k.set 0 (Value.slice none 0 0)).set 1 (Value.slice none 0 0)).set 2 (Value.int .i64 0))
    go_wp2
    have e0 : _ = some (Value.slice none 0 0) := hBZ.out.cell 0
    have e1 : _ = some (Value.slice none 0 0) := hBZ.out.cell 1
    have e2 : _ = some (Value.int .i64 0) := hBZ.out.cell 2
    (try simp only [Exit.inBlock, Exit.then])
    refine bodyPost_ret (v := .tuple #[.agg #[(Value.slice none 0 0), (Value.slice none 0 0), (Value.int .i64 0)], .int .i64 F]) (by simp [results, Tryd.results23, go_sem, e0, e1, e2]) rfl ?_
    obtain ⟨rfl, rfl⟩ := Prod.mk.inj HQ.out
    exact ⟨_, none, 0, 0, none, 0, 0, rfl, hIZ.out, SlV.empty _, SlV.empty _, rfl, rfl⟩
  subst hf
  obtain ⟨hp, hl⟩ := withF_zero hF.out
  have OK := Lib.hid (planF_zero hp)
  obtain ⟨lf, hlf⟩ : ∃ k, Hid (listF fs.length ds = k) := ⟨_, Lib.hid rfl⟩
  have hq2 := hq.out
  rw [impuR, if_neg (by simp), hlf.out] at hq2
  rw [hn.out, hne.out] at hq2 OK
  rw [hn.out] at hlf
  have HQ0 := Lib.hid hq2
  obtain rfl : nr = n := by rw [← hrl.out, hl, hn.out]
  clear hq hq2 hp hl
  have L02 := Lib.hid (LE1.out.trans L12.out)
  have p0 : w1.cell? ⟨bp, 0, none⟩ = some (.slice a nr cap) := (HBX.out φ2 L12.out w1 H1.out.inv.fz).cell 0
  have p1 : w1.cell? ⟨bp, 1, none⟩ = some (.slice ae m ce) := (HBX.out φ2 L12.out w1 H1.out.inv.fz).cell 1
  have C1 := Lib.hid (RcheckRecords_any nr a cap fs m ae ce es w1 φ2 H1.out.inv.fz (s.mono L02.out) (se.mono L02.out) hn nd ad cd ds (sd.mono L02.out) hdl hlf)
  by_cases hz : lf = 0
  case neg =>
    have hlb : (lf != 0) = true := by simp [hz]
    have HQ : Hid ((([], [], 0), lf) = (r, G)) := Lib.hid (by rw [← HQ0.out, if_pos hz])
    clear hz
    go_wp2_with fail
    refine C1.out.mono ?_
    rintro e w2 ⟨rfl, hb2⟩
    have H2 := Lib.hid (H1.out.callB hb2)
    clear hb2 p0 p1
    have z0 : _ = some (Value.slice none 0 0) := H2.out.k.cell 0
    have z1 : _ = some (Value.slice none 0 0) := H2.out.k.cell 1
    have z2 : _ = some (Value.int .i64 0) := H2.out.k.cell 2
    have x0 := H2.out.k.frz 0
    have x1 := H2.out.k.frz 1
    have x2 := H2.out.k.frz 2
    have hIZ := Lib.hid (((H2.out.inv.setCell H2.out.l H2.out.f (off := 0) (Value.slice none 0 0)).setCell H2.out.l H2.out.f (off := 1) (Value.slice none 0 0)).setCell H2.out.l H2.out.f (off := 2) (Value.int .i64 0))
    have hBZ := Lib.hid (((H2.out.k.set 0 (Value.slice none 0 0)).set 1 (Value.slice none 0 0)).set 2 (Value.int .i64 0))
    go_wp2
    have e0 : _ = some (Value.slice none 0 0) := hBZ.out.cell 0
    have e1 : _ = some (Value.slice none 0 0) := hBZ.out.cell 1
    have e2 : _ = some (Value.int .i64 0) := hBZ.out.cell 2
    (try simp only [Exit.inBlock, Exit.then])
    refine bodyPost_ret (v := .tuple #[.agg #[(Value.slice none 0 0), (Value.slice none 0 0), (Value.int .i64 0)], .int .i64 lf]) (by simp [results, Tryd.results23, go_sem, e0, e1, e2]) rfl ?_
    obtain ⟨rfl, rfl⟩ := Prod.mk.inj HQ.out
    exact ⟨_, none, 0, 0, none, 0, 0, rfl, hIZ.out, SlV.empty _, SlV.empty _, rfl, rfl⟩
  subst hz
  obtain ⟨hd3, hdr⟩ := listF_zero hlf.out
  rw [hdl.out] at hd3 hdr
  have HDR := Lib.hid hdr
  have hq2 := HQ0.out
  rw [if_neg (by simp)] at hq2
  have HQ1 := Lib.hid hq2
  obtain ⟨rq, bq, hrq⟩ : ∃ rq bq, Hid (rimpR fs es nr m rec ds seed = (rq, bq)) := ⟨_, _, Lib.hid rfl⟩
  have HRQ : Hid ((if (leastS fs es nr m rec).1.2.2 = true then (bq = true ∧ ((impR fs es nr m rec (leastS fs es nr m rec).1.1 ds (shufF seed ds.length)).1, (leastS fs es nr m rec).1.1, (impR fs es nr m rec (leastS fs es nr m rec).1.1 ds (shufF seed ds.length)).2) = rq) else bq = false)) := Lib.hid (by
    have h := hrq.out
    rw [rimpR] at h
    split
    · next h1 => rw [if_pos h1] at h; obtain ⟨h2, h3⟩ := Prod.mk.inj h; exact ⟨h3.symm, h2⟩
    · next h1 => rw [if_neg h1] at h; exact (Prod.mk.inj h).2.symm)
  clear hdr hq2 HQ0
  go_wp2_with fail
  refine C1.out.mono ?_
  rintro e w2 ⟨rfl, hb2⟩
  have H2 := Lib.hid (H1.out.callB hb2)
  clear hb2 p0 p1 C1 H1
  have p0 : w2.cell? ⟨bp, 0, none⟩ = some (.slice a nr cap) := (HBX.out φ2 L12.out w2 H2.out.inv.fz).cell 0
  have p1 : w2.cell? ⟨bp, 1, none⟩ = some (.slice ae m ce) := (HBX.out φ2 L12.out w2 H2.out.inv.fz).cell 1
  go_wp2_with fail
  refine (Rimpute_any nr a cap fs m ae ce es OK w2 φ2 H2.out.inv.fz (s.mono L02.out) (se.mono L02.out) a2 c2 rec (sr.mono L02.out) hrl nd ad cd ds (sd.mono L02.out) hdl hd3 HDR seed (by omega) hrq).mono ?_
  rintro e w3 ⟨φ3, ar, nr3, cr, af, nf3, cf, rfl, hi3, s3, s4, hl3, hl4⟩
  have H3 := Lib.hid ((H2.out.call hi3).callB ((Below.refl _ _).alloc (Nat.le_refl _) (.cells #[.slice ar nr3 cr, .slice af nf3 cf, .int .i64 rq.2.2] 42)))
  have S3 := Lib.hid s3
  have S4 := Lib.hid s4
  have HL3 := Lib.hid hl3
  have HL4 := Lib.hid hl4
  clear hi3 s3 s4 hl3 hl4 p0 p1
  have y0 : (w3.alloc (.cells #[.slice ar nr3 cr, .slice af nf3 cf, .int .i64 rq.2.2] 42)).cell? ⟨w3.heap.size, 0, none⟩ = some (.slice ar nr3 cr) := box_at 0
  have y1 : (w3.alloc (.cells #[.slice ar nr3 cr, .slice af nf3 cf, .int .i64 rq.2.2] 42)).cell? ⟨w3.heap.size, 1, none⟩ = some (.slice af nf3 cf) := box_at 1
  have y2 : (w3.alloc (.cells #[.slice ar nr3 cr, .slice af nf3 cf, .int .i64 rq.2.2] 42)).cell? ⟨w3.heap.size, 2, none⟩ = some (.int .i64 rq.2.2) := box_at 2
  cases bq with
  | false =>
    have HQ : Hid ((([], [], 0), 9) = (r, G)) := Lib.hid (by
      have h := HRQ.out
      rw [← HQ1.out]
      split at h
      · cases h.1
      · next h1 => rw [if_neg h1])
    have z0 : _ = some (Value.slice none 0 0) := H3.out.k.cell 0
    have z1 : _ = some (Value.slice none 0 0) := H3.out.k.cell 1
    have z2 : _ = some (Value.int .i64 0) := H3.out.k.cell 2
    have x0 := H3.out.k.frz 0
    have x1 := H3.out.k.frz 1
    have x2 := H3.out.k.frz 2
    have hIZ := Lib.hid (((H3.out.inv.setCell H3.out.l H3.out.f (off := 0) (Value.slice none 0 0)).setCell H3.out.l H3.out.f (off := 1) (Value.slice none 0 0)).setCell H3.out.l H3.out.f (off := 2) (Value.int .i64 0))
    have hBZ := Lib.hid (((H3.out.k.set 0 (Value.slice none 0 0)).set 1 (Value.slice none 0 0)).set 2 (Value.int .i64 0))
    go_wp2
    have e0 : _ = some (Value.slice none 0 0) := hBZ.out.cell 0
    have e1 : _ = some (Value.slice none 0 0) := hBZ.out.cell 1
    have e2 : _ = some (Value.int .i64 0) := hBZ.out.cell 2
    (try simp only [Exit.inBlock, Exit.then])
    refine bodyPost_ret (v := .tuple #[.agg #[(Value.slice none 0 0), (Value.slice none 0 0), (Value.int .i64 0)], .int .i64 9]) (by simp [results, Tryd.results23, go_sem, e0, e1, e2]) rfl ?_
    obtain ⟨rfl, rfl⟩ := Prod.mk.inj HQ.out
    exact ⟨_, none, 0, 0, none, 0, 0, rfl, hIZ.out, SlV.empty _, SlV.empty _, rfl, rfl⟩
  | true =>
    have HQ2 : Hid ((if 100 < seed.size then (([], [], 0), 2) else (rq, 0)) = (r, G)) := Lib.hid (by
      have h := HRQ.out
      rw [← HQ1.out]
      split at h
      · next h1 => rw [if_pos h1, ← h.2]
      · cases h)
    by_cases hs : 100 < seed.size
    · have HQ : Hid ((([], [], 0), 2) = (r, G)) := Lib.hid (by rw [← HQ2.out, if_pos hs])
      have z0 : _ = some (Value.slice none 0 0) := H3.out.k.cell 0
      have z1 : _ = some (Value.slice none 0 0) := H3.out.k.cell 1
      have z2 : _ = some (Value.int .i64 0) := H3.out.k.cell 2
      have x0 := H3.out.k.frz 0
      have x1 := H3.out.k.frz 1
      have x2 := H3.out.k.frz 2
      have hIZ := Lib.hid (((H3.out.inv.setCell H3.out.l H3.out.f (off := 0) (Value.slice none 0 0)).setCell H3.out.l H3.out.f (off := 1) (Value.slice none 0 0)).setCell H3.out.l H3.out.f (off := 2) (Value.int .i64 0))
      have hBZ := Lib.hid (((H3.out.k.set 0 (Value.slice none 0 0)).set 1 (Value.slice none 0 0)).set 2 (Value.int .i64 0))
      go_wp2
      have e0 : _ = some (Value.slice none 0 0) := hBZ.out.cell 0
      have e1 : _ = some (Value.slice none 0 0) := hBZ.out.cell 1
      have e2 : _ = some (Value.int .i64 0) := hBZ.out.cell 2
      (try simp only [Exit.inBlock, Exit.then])
      refine bodyPost_ret (v := .tuple #[.agg #[(Value.slice none 0 0), (Value.slice none 0 0), (Value.int .i64 0)], .int .i64 2]) (by simp [results, Tryd.results23, go_sem, e0, e1, e2]) rfl ?_
      obtain ⟨rfl, rfl⟩ := Prod.mk.inj HQ.out
      exact ⟨_, none, 0, 0, none, 0, 0, rfl, hIZ.out, SlV.empty _, SlV.empty _, rfl, rfl⟩
    · have HQ : Hid ((rq, 0) = (r, G)) := Lib.hid (by rw [← HQ2.out, if_neg hs])
      have z0 : _ = some (Value.slice none 0 0) := H3.out.k.cell 0
      have z1 : _ = some (Value.slice none 0 0) := H3.out.k.cell 1
      have z2 : _ = some (Value.int .i64 0) := H3.out.k.cell 2
      have x0 := H3.out.k.frz 0
      have x1 := H3.out.k.frz 1
      have x2 := H3.out.k.frz 2
      have hIZ := Lib.hid (((H3.out.inv.setCell H3.out.l H3.out.f (off := 0) (Value.slice ar nr3 cr)).setCell H3.out.l H3.out.f (off := 1) (Value.slice af nf3 cf)).setCell H3.out.l H3.out.f (off := 2) (Value.int .i64 rq.2.2))
      have hBZ := Lib.hid (((H3.out.k.set 0 (Value.slice ar nr3 cr)).set 1 (Value.slice af nf3 cf)).set 2 (Value.int .i64 rq.2.2))
      go_wp2
      have e0 : _ = some (Value.slice ar nr3 cr) := hBZ.out.cell 0
      have e1 : _ = some (Value.slice af nf3 cf) := hBZ.out.cell 1
      have e2 : _ = some (Value.int .i64 rq.2.2) := hBZ.out.cell 2
      (try simp only [Exit.inBlock, Exit.then])
      refine bodyPost_ret (v := .tuple #[.agg #[(Value.slice ar nr3 cr), (Value.slice af nf3 cf), (Value.int .i64 rq.2.2)], .int .i64 0]) (by simp [results, Tryd.results23, go_sem, e0, e1, e2]) rfl ?_
      obtain ⟨rfl, rfl⟩ := Prod.mk.inj HQ.out
      exact ⟨φ3, ar, _, cr, af, nf3, cf, rfl, hIZ.out, S3.out, S4.out, HL3.out, HL4.out⟩
/-- Two repairs that read alike are the same. -/
theorem sameRepair_t {w : World} {φ : Phi} (hφ : Fz φ w) {a1 a2 a3 a4 : Option Addr} {c1 c2 c3 c4 n1 n2 : Nat} {x y : List Int} {dn : Int} (s1 : SlV φ a1 c1 x) (s2 : SlV φ a2 c2 y) (s3 : SlV φ a3 c3 x) (s4 : SlV φ a4 c4 y) (h1 : Hid (x.length = n1)) (h2 : Hid (y.length = n2)) :
    Calls Tryd.prog 24 #[.agg #[.slice a1 n1 c1, .slice a2 n2 c2, .int .i64 dn], .agg #[.slice a3 n1 c3, .slice a4 n2 c4, .int .i64 dn]] w (fun e w' => e = .returned (.bool true) ∧ Below w.heap.size w w') := by
  have m1 := s1.len
  have m2 := s2.len
  rw [h1.out] at m1
  rw [h2.out] at m2
  have hd : (dn == dn) = true := by simp
  have hB := Lib.hid (((Below.refl w.heap.size w).alloc (Nat.le_refl _) (.cells #[.slice a1 n1 c1, .slice a2 n2 c2, .int .i64 dn] 42)).alloc (by simp) (.cells #[.slice a3 n1 c3, .slice a4 n2 c4, .int .i64 dn] 42))
  have K1 := Lib.hid ((Blk.new w #[.slice a1 n1 c1, .slice a2 n2 c2, .int .i64 dn] 42).alloc (.cells #[.slice a3 n1 c3, .slice a4 n2 c4, .int .i64 dn] 42))
  have K2 := Lib.hid (Blk.new (w.alloc (.cells #[.slice a1 n1 c1, .slice a2 n2 c2, .int .i64 dn] 42)) #[.slice a3 n1 c3, .slice a4 n2 c4, .int .i64 dn] 42)
  rw [alloc_size] at K2
  have HF := Lib.hid (hφ.below hB.out)
  go_enter Tryd.func24, Tryd.ntmps24
  go_wp2_with fail
  refine (Equal_t n1 a1 c1 x a3 c3 _ φ φ HF.out HF.out s1 h1 m1 s3).mono ?_
  rintro e w1 ⟨rfl, hb1⟩
  have y1 : w1.cell? ⟨w.heap.size, 1, none⟩ = some (.slice a2 n2 c2) := (K1.out.callB hb1).cell 1
  have y2 : w1.cell? ⟨w.heap.size + 1, 1, none⟩ = some (.slice a4 n2 c4) := (K2.out.callB hb1).cell 1
  have HB1 := Lib.hid hb1
  clear hb1
  go_wp2_with fail
  refine (Equal_t n2 a2 c2 y a4 c4 w1 φ φ (HF.out.below HB1.out) (HF.out.below HB1.out) s2 h2 m2 s4).mono ?_
  rintro e w2 ⟨rfl, hb2⟩
  have z1 : w2.cell? ⟨w.heap.size, 2, none⟩ = some (.int .i64 dn) := ((K1.out.callB HB1.out).callB hb2).cell 2
  have z2 : w2.cell? ⟨w.heap.size + 1, 2, none⟩ = some (.int .i64 dn) := ((K2.out.callB HB1.out).callB hb2).cell 2
  have HB2 := Lib.hid hb2
  clear hb2 y1 y2
  go_wp2
  go_ret
  have hs1 := hB.out.size
  have hs2 := HB1.out.size
  exact ⟨rfl, (hB.out.trans (HB1.out.mono hs1)).trans (HB2.out.mono (Nat.le_trans hs1 hs2))⟩
end Go.Proofs.YtambgcijceecpaaDoor
