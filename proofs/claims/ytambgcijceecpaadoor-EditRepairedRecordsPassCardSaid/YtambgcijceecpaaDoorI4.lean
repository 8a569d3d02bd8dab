/- The walk of Impute. Conditions: none beyond what the claim form gives. -/
import Derived.Test.YtambgcijceecpaaDoorI3
namespace Go.Proofs.YtambgcijceecpaaDoor
open Go.RowKit
set_option linter.unusedVariables false
/-- A result's cell, while a call is under way. -/
structure ResSt (w0 : World) (φ0 φ : Phi) (b : Nat) (cs : Array Value) (T : TypeId) (wr : World) : Prop where
  inv : Inv w0.heap.size w0 φ0 φ wr
  k : Blk wr b cs T
  f : φ b = none
  l : w0.heap.size ≤ b
section
variable {w0 wr w' : World} {φ0 φ φ' : Phi} {b : Nat} {cs : Array Value} {T : TypeId}
theorem ResSt.start (hi : Inv w0.heap.size w0 φ0 φ wr) (cs : Array Value) (T : TypeId) : ResSt w0 φ0 φ wr.heap.size cs T (wr.alloc (.cells cs T)) := ⟨hi.alloc _, Blk.new _ _ _, hi.fz.new_none (Nat.le_refl _), hi.size⟩
theorem ResSt.call (h : ResSt w0 φ0 φ b cs T wr) (hi : Inv wr.heap.size wr φ φ' w') : ResSt w0 φ0 φ' b cs T w' := ⟨h.inv.call hi, h.k.callB hi.bel, (hi.new _ h.k.lt).trans h.f, h.l⟩
theorem ResSt.callB (h : ResSt w0 φ0 φ b cs T wr) (hb : Below wr.heap.size wr w') : ResSt w0 φ0 φ b cs T w' := ⟨h.inv.callB hb, h.k.callB hb, h.f, h.l⟩
end
abbrev Rpr := List Int × List Int × Int
/-- The repair that Impute hands back, and its fault. -/
noncomputable def impuR (fs : List Fld) (es : List Edt) (rec : List Int) (ds : List (List Int)) (seed : ByteArray) (F : Int) : Rpr × Int :=
  if F ≠ 0 then (([], [], 0), F)
  else if listF fs.length ds ≠ 0 then (([], [], 0), listF fs.length ds)
  else if (leastS fs es fs.length es.length rec).1.2.2 = true then
    (if 100 < seed.size then (([], [], 0), 2)
     else (((impR fs es fs.length es.length rec (leastS fs es fs.length es.length rec).1.1 ds (shufF seed ds.length)).1, (leastS fs es fs.length es.length rec).1.1, (impR fs es fs.length es.length rec (leastS fs es fs.length es.length rec).1.1 ds (shufF seed ds.length)).2), 0))
  else (([], [], 0), 9)
theorem firstS_len {fs : List Fld} {es : List Edt} {n m : Nat} (h : PlOk fs es n m) {rec : List Int} (hr : rec.length = n) {l : List Int} (h2 : (firstS fs es n m rec l).2 = true) : (firstS fs es n m rec l).1.length = n := ((mem_first hr).1 (firstS_some h2).1).1
/-- The record of a repair has the length of the record. -/
theorem impR_len {fs : List Fld} {es : List Edt} {n m : Nat} {rec fields : List Int} {ds : List (List Int)} {order : List Int} (hr : rec.length = n) (hf : fields.length ≠ 0 → (firstS fs es n m rec fields).1.length = n) (ho : ∀ k ∈ order, 0 ≤ k ∧ k < (ds.length : Int)) : (impR fs es n m rec fields ds order).1.length = n := by
  have h := impF_ok (fs := fs) (es := es) (n := n) (m := m) (rec := rec) (fields := fields) (ds := ds) (r0 := rec) order (rec, -1, 0) ho (IOk.start rec)
  unfold impR
  split
  · exact hr
  · next h0 =>
    split
    · exact hf h0
    · next h1 => show (impF fs es n m rec fields ds order (rec, -1, 0)).1.length = n; rw [(h.yes (by omega)).1, takenF_len, hr]
def RprPost (r : Rpr) (G : Int) (φ : Phi) (w : World) (e : Ending) (w' : World) : Prop :=
  ∃ φ' ar nr cr af nf cf, e = .returned (.tuple #[.agg #[.slice ar nr cr, .slice af nf cf, .int .i64 r.2.2], .int .i64 G]) ∧ Inv w.heap.size w φ φ' w' ∧ SlV φ' ar cr r.1 ∧ SlV φ' af cf r.2.1 ∧ r.1.length = nr ∧ r.2.1.length = nf
set_option maxRecDepth 100000 in
set_option maxHeartbeats 2000000 in
theorem Impute_any
  (n : Nat) (a : Option Addr) (cap : Nat) (fs : List Fld) (m : Nat) (ae : Option Addr) (ce : Nat) (es : List Edt) (w : World) (φ : Phi) (hφ : Fz φ w) (s : SlV φ a cap fs) (hn : Hid (fs.length = n)) (hm : n ≤ 9223372036854775807) (hg : Hid (∀ x ∈ fs, FldG x)) (se : SlV φ ae ce es) (hne : Hid (es.length = m)) (hme : m ≤ 9223372036854775807) (hge : Hid (∀ x ∈ es, EdtG x))
      (nr : Nat) (a2 : Option Addr) (c2 : Nat) (rec : List Int) (sr : SlV φ a2 c2 rec) (hrl : Hid (rec.length = nr)) (hmr : nr ≤ 9223372036854775807)
      (nd : Nat) (ad : Option Addr) (cd : Nat) (ds : List (List Int)) (sd : SlV φ ad cd ds) (hdl : Hid (ds.length = nd)) (hmd : nd ≤ 9223372036854775807) (seed : ByteArray) (hsd : seed.size ≤ reachBytes)
    {F : Int} (hF : Hid (withF fs es rec = F)) {r : Rpr} {G : Int} (hq : Hid (impuR fs es rec ds seed F = (r, G))) :
    Calls Tryd.prog 22 #[.agg #[.slice a n cap, .slice ae m ce], .slice a2 nr c2, .slice ad nd cd, .string seed] w (RprPost r G φ w) := by
  have hRS := Lib.hid (ResSt.start ((Inv.start hφ).alloc (.cells #[.slice a n cap, .slice ae m ce] 25)) #[.slice none 0 0, .slice none 0 0, .int .i64 0] 42)
  rw [alloc_size] at hRS
  unfold reachBytes at hsd
  go_enter Tryd.func22, Tryd.ntmps22
  go_wp2_with fail
  refine (with_f n a cap fs m ae ce es _ φ hRS.out.inv.fz s hn hm hg se hne hme hge nr a2 c2 rec sr hrl hmr hF).mono ?_
  rintro e w1 ⟨φ1, p, rfl, hi1, hR⟩
  have H1 := Lib.hid (hRS.out.call hi1)
  have HR := Lib.hid hR
  clear hi1 hR hRS
  generalize w.heap.size + 1 = b8 at *
  by_cases hf : F = 0
  case neg =>
    have hff : (F != 0) = true := by simp [hf]
    have HQ : Hid ((([], [], 0), F) = (r, G)) := Lib.hid (by rw [← hq.out, impuR, if_pos hf])
    clear hf
    have z0 : _ = some (Value.slice none 0 0) := H1.out.k.cell 0
    have z1 : _ = some (Value.slice none 0 0) := H1.out.k.cell 1
    have z2 : _ = some (Value.int .i64 0) := H1.out.k.cell 2
    have x0 := H1.out.k.frz 0
    have x1 := H1.out.k.frz 1
    have x2 := H1.out.k.frz 2
    have hIZ := Lib.hid (((H1.out.inv.setCell H1.out.l H1.out.f (off := 0) (Value.slice none 0 0)).setCell H1.out.l H1.out.f (off := 1) (Value.slice none 0 0)).setCell H1.out.l H1.out.f (off := 2) (Value.int .i64 0))
    have hBZ := Lib.hid (((H1.out.k.set 0 (Value.slice none 0 0)).set 1 (Value.slice none 0 0)).set 2 (Value.int .i64 0))
    go_wp2
    have e0 : _ = some (Value.slice none 0 0) := hBZ.out.cell 0
    have e1 : _ = some (Value.slice none 0 0) := hBZ.out.cell 1
    have e2 : _ = some (Value.int .i64 0) := hBZ.out.cell 2
    (try simp only [Exit.inBlock, Exit.then])
    refine bodyPost_ret (v := .tuple #[.agg #[(Value.slice none 0 0), (Value.slice none 0 0), (Value.int .i64 0)], .int .i64 F]) (by simp [results, Tryd.results22, go_sem, e0, e1, e2]) rfl ?_
    obtain ⟨rfl, rfl⟩ := Prod.mk.inj HQ.out
    exact ⟨_, none, 0, 0, none, 0, 0, rfl, hIZ.out, SlV.empty _, SlV.empty _, rfl, rfl⟩
  subst hf
  obtain ⟨hp, hl⟩ := withF_zero hF.out
  obtain ⟨br, a', cap', ae', ce', ab', cb', rfl, hV⟩ := HR.out rfl
  have OK := Lib.hid hV.ok
  obtain ⟨lf, hlf⟩ : ∃ k, Hid (listF fs.length ds = k) := ⟨_, Lib.hid rfl⟩
  have hq2 := hq.out
  rw [impuR, if_neg (by simp), hlf.out] at hq2
  have HQ0 := Lib.hid hq2
  obtain rfl : fs.length = nr := by rw [← hrl.out, hl]
  clear hq hq2 hp hl HR
  have sd1 := sd.mono H1.out.inv.le
  have sr1 := sr.mono H1.out.inv.le
  have C1 := Lib.hid (listFault_any hV w1 H1.out.inv.fz nd ad cd ds sd1 hdl hlf)
  by_cases hz : lf = 0
  case neg =>
    have hlb : (lf != 0) = true := by simp [hz]
    have HQ : Hid ((([], [], 0), lf) = (r, G)) := Lib.hid (by rw [← HQ0.out, if_pos hz])
    clear hz
    go_wp2_with fail
    refine C1.out.mono ?_
    rintro e w' ⟨rfl, rfl⟩
    have z0 : _ = some (Value.slice none 0 0) := H1.out.k.cell 0
    have z1 : _ = some (Value.slice none 0 0) := H1.out.k.cell 1
    have z2 : _ = some (Value.int .i64 0) := H1.out.k.cell 2
    have x0 := H1.out.k.frz 0
    have x1 := H1.out.k.frz 1
    have x2 := H1.out.k.frz 2
    have hIZ := Lib.hid (((H1.out.inv.setCell H1.out.l H1.out.f (off := 0) (Value.slice none 0 0)).setCell H1.out.l H1.out.f (off := 1) (Value.slice none 0 0)).setCell H1.out.l H1.out.f (off := 2) (Value.int .i64 0))
    have hBZ := Lib.hid (((H1.out.k.set 0 (Value.slice none 0 0)).set 1 (Value.slice none 0 0)).set 2 (Value.int .i64 0))
    go_wp2
    have e0 : _ = some (Value.slice none 0 0) := hBZ.out.cell 0
    have e1 : _ = some (Value.slice none 0 0) := hBZ.out.cell 1
    have e2 : _ = some (Value.int .i64 0) := hBZ.out.cell 2
    (try simp only [Exit.inBlock, Exit.then])
    refine bodyPost_ret (v := .tuple #[.agg #[(Value.slice none 0 0), (Value.slice none 0 0), (Value.int .i64 0)], .int .i64 lf]) (by simp [results, Tryd.results22, go_sem, e0, e1, e2]) rfl ?_
    obtain ⟨rfl, rfl⟩ := Prod.mk.inj HQ.out
    exact ⟨_, none, 0, 0, none, 0, 0, rfl, hIZ.out, SlV.empty _, SlV.empty _, rfl, rfl⟩
  subst hz
  obtain ⟨hd3, hdr⟩ := listF_zero hlf.out
  rw [hdl.out] at hd3 hdr
  have HDR := Lib.hid hdr
  have hq2 := HQ0.out
  rw [if_neg (by simp)] at hq2
  have HQ1 := Lib.hid hq2
  obtain ⟨lq, hlq⟩ : ∃ q, Hid (leastS fs es fs.length es.length rec = q) := ⟨_, Lib.hid rfl⟩
  obtain ⟨⟨bl, lw, fo⟩, bb⟩ := lq
  rw [hlq.out] at HQ1
  dsimp only at HQ1
  have C2 := Lib.hid (least_any hV w1 H1.out.inv.fz a2 c2 rec sr1 hrl hlq)
  clear hdr hq2 HQ0
  cases fo with
  | false =>
    have HQ : Hid ((([], [], 0), 9) = (r, G)) := Lib.hid (by rw [← HQ1.out, if_neg (by simp)])
    go_wp2_with (go_at_call 48; refine C1.out.mono ?_; rintro e w' ⟨rfl, rfl⟩)
    refine C2.out.mono ?_
    rintro e w2 ⟨φ2, a5, c5, rfl, hi2, s5⟩
    have H2 := Lib.hid (H1.out.call hi2)
    clear hi2
    have z0 : _ = some (Value.slice none 0 0) := H2.out.k.cell 0
    have z1 : _ = some (Value.slice none 0 0) := H2.out.k.cell 1
    have z2 : _ = some (Value.int .i64 0) := H2.out.k.cell 2
    have x0 := H2.out.k.frz 0
    have x1 := H2.out.k.frz 1
    have x2 := H2.out.k.frz 2
    have hIZ := Lib.hid (((H2.out.inv.setCell H2.out.l H2.out.f (off := 0) (Value.slice none 0 0)).setCell H2.out.l H2.out.f (off := 1) (Value.slice none 0 0)).setCell H2.out.l H2.out.f (off := 2) (Value.int .i64 0))
    have hBZ := Lib.hid (((H2.out.k.set 0 (Value.slice none 0 0)).set 1 (Value.slice none 0 0)).set 2 (Value.int .i64 0))
    go_wp2
    have e0 : _ = some (Value.slice none 0 0) := hBZ.out.cell 0
    have e1 : _ = some (Value.slice none 0 0) := hBZ.out.cell 1
    have e2 : _ = some (Value.int .i64 0) := hBZ.out.cell 2
    (try simp only [Exit.inBlock, Exit.then])
    refine bodyPost_ret (v := .tuple #[.agg #[(Value.slice none 0 0), (Value.slice none 0 0), (Value.int .i64 0)], .int .i64 9]) (by simp [results, Tryd.results22, go_sem, e0, e1, e2]) rfl ?_
    obtain ⟨rfl, rfl⟩ := Prod.mk.inj HQ.out
    exact ⟨_, none, 0, 0, none, 0, 0, rfl, hIZ.out, SlV.empty _, SlV.empty _, rfl, rfl⟩
  | true =>
    have hlaw := least_law OK.out hrl.out (l := bl) (lw := lw) (by rw [hlq.out])
    have HFR : Hid (∀ x ∈ bl, 0 ≤ x ∧ x < (fs.length : Int)) := Lib.hid (fun x hx => freeF_zero hlaw.1 x hx)
    have HFS : Hid (bl.length ≠ 0 → (firstS fs es fs.length es.length rec bl).1.length = fs.length) := Lib.hid (fun _ => hlaw.2.2.2.1)
    clear hlaw
    have hq2 := HQ1.out
    rw [if_pos rfl] at hq2
    have HQ2 := Lib.hid hq2
    obtain ⟨nb, hnb⟩ : ∃ k, Hid (bl.length = k) := ⟨_, Lib.hid rfl⟩
    clear hq2 HQ1
    by_cases hs : 100 < seed.size
    · have HQ : Hid ((([], [], 0), 2) = (r, G)) := Lib.hid (by rw [← HQ2.out, if_pos hs])
      go_wp2_with (go_at_call 48; refine C1.out.mono ?_; rintro e w' ⟨rfl, rfl⟩)
      refine C2.out.mono ?_
      rintro e w2 ⟨φ2, a5, c5, rfl, hi2, s5⟩
      have H2 := Lib.hid (H1.out.call hi2)
      clear hi2
      have z0 : _ = some (Value.slice none 0 0) := H2.out.k.cell 0
      have z1 : _ = some (Value.slice none 0 0) := H2.out.k.cell 1
      have z2 : _ = some (Value.int .i64 0) := H2.out.k.cell 2
      have x0 := H2.out.k.frz 0
      have x1 := H2.out.k.frz 1
      have x2 := H2.out.k.frz 2
      have hIZ := Lib.hid (((H2.out.inv.setCell H2.out.l H2.out.f (off := 0) (Value.slice none 0 0)).setCell H2.out.l H2.out.f (off := 1) (Value.slice none 0 0)).setCell H2.out.l H2.out.f (off := 2) (Value.int .i64 0))
      have hBZ := Lib.hid (((H2.out.k.set 0 (Value.slice none 0 0)).set 1 (Value.slice none 0 0)).set 2 (Value.int .i64 0))
      go_wp2
      have e0 : _ = some (Value.slice none 0 0) := hBZ.out.cell 0
      have e1 : _ = some (Value.slice none 0 0) := hBZ.out.cell 1
      have e2 : _ = some (Value.int .i64 0) := hBZ.out.cell 2
      (try simp only [Exit.inBlock, Exit.then])
      refine bodyPost_ret (v := .tuple #[.agg #[(Value.slice none 0 0), (Value.slice none 0 0), (Value.int .i64 0)], .int .i64 2]) (by simp [results, Tryd.results22, go_sem, e0, e1, e2]) rfl ?_
      obtain ⟨rfl, rfl⟩ := Prod.mk.inj HQ.out
      exact ⟨_, none, 0, 0, none, 0, 0, rfl, hIZ.out, SlV.empty _, SlV.empty _, rfl, rfl⟩
    · obtain ⟨iq, hiq⟩ : ∃ q, Hid (impR fs es fs.length es.length rec bl ds (shufF seed nd) = q) := ⟨_, Lib.hid rfl⟩
      have HQ : Hid (((iq.1, bl, iq.2), 0) = (r, G)) := Lib.hid (by rw [← HQ2.out, if_neg hs, hdl.out, hiq.out])
      have HLN : Hid (iq.1.length = fs.length) := Lib.hid (by rw [← hiq.out]; exact impR_len hrl.out HFS.out (by rw [hdl.out]; exact shufF_rng _ _))
      clear HQ2
      go_wp2_with (first
        | (go_at_call 48; refine C1.out.mono ?_; rintro e w' ⟨rfl, rfl⟩)
        | (go_at_call 46; refine C2.out.mono ?_; rintro e w2 ⟨φ2, a5, c5, rfl, hi2, s5⟩; rw [hnb.out]; have H2 := Lib.hid (H1.out.call hi2); have S5 := Lib.hid s5; have hV2 := hV.mono hi2.le; have sd2 := sd1.mono hi2.le; have sr2 := sr1.mono hi2.le; clear hi2 s5))
      refine (impute_any hV2 w2 H2.out.inv.fz a2 c2 rec sr2 hrl nb a5 c5 bl S5.out hnb HFR nd ad cd ds sd2 hdl hd3 HDR seed (by omega) HFS hiq).mono ?_
      rintro e w3 ⟨φ3, ar, cr, rfl, hi3, s3⟩
      have H3 := Lib.hid (H2.out.call hi3)
      have S3 := Lib.hid s3
      have S53 := Lib.hid (S5.out.mono hi3.le)
      clear hi3 s3
      have z0 : _ = some (Value.slice none 0 0) := H3.out.k.cell 0
      have z1 : _ = some (Value.slice none 0 0) := H3.out.k.cell 1
      have z2 : _ = some (Value.int .i64 0) := H3.out.k.cell 2
      have x0 := H3.out.k.frz 0
      have x1 := H3.out.k.frz 1
      have x2 := H3.out.k.frz 2
      have hIZ := Lib.hid (((H3.out.inv.setCell H3.out.l H3.out.f (off := 0) (Value.slice ar fs.length cr)).setCell H3.out.l H3.out.f (off := 1) (Value.slice a5 nb c5)).setCell H3.out.l H3.out.f (off := 2) (Value.int .i64 iq.2))
      have hBZ := Lib.hid (((H3.out.k.set 0 (Value.slice ar fs.length cr)).set 1 (Value.slice a5 nb c5)).set 2 (Value.int .i64 iq.2))
      go_wp2
      have e0 : _ = some (Value.slice ar fs.length cr) := hBZ.out.cell 0
      have e1 : _ = some (Value.slice a5 nb c5) := hBZ.out.cell 1
      have e2 : _ = some (Value.int .i64 iq.2) := hBZ.out.cell 2
      (try simp only [Exit.inBlock, Exit.then])
      refine bodyPost_ret (v := .tuple #[.agg #[(Value.slice ar fs.length cr), (Value.slice a5 nb c5), (Value.int .i64 iq.2)], .int .i64 0]) (by simp [results, Tryd.results22, go_sem, e0, e1, e2]) rfl ?_
      obtain ⟨rfl, rfl⟩ := Prod.mk.inj HQ.out
      exact ⟨φ3, ar, _, cr, a5, nb, c5, rfl, hIZ.out, S3.out, S53.out, HLN.out, hnb.out⟩
end Go.Proofs.YtambgcijceecpaaDoor
